/-
  Package files: Sync, Truncate, Rename, Remove.
-/
import Derived.Test.YthkncfdgfbnchaaGreatDoorD
set_option linter.unusedVariables false
set_option linter.unusedSimpArgs false
namespace Go.Proofs.YthkncfdgfbnchaaGreatDoor
open Go.RowKit

/-- 'there' says no. -/
def No (pv : Value) (s : ByteArray) (er : Int) (w : World) : Prop :=
  Calls Tryz.prog 50 #[pv, .string s] w fun e w' => e = .returned (.tuple #[.pointer none, .int .i64 er]) ∧ w = w'
def Ret (er : Int) (w : World) (e : Ending) (w' : World) : Prop := e = .returned (.int .i64 er) ∧ w = w'
structure Went (w : World) (F M : Nat) (ps ps' : List PF) (clock : Nat) (lim arm : Int) (dn : Bool) (w' : World) : Prop where
  at_ : FilesAt w' F M ps' clock lim arm dn
  kept : Kept (fun k => k ∈ foot F M ps) w w'
  feet : ∀ k ∈ foot F M ps', k ∈ foot F M ps ∨ w.heap.size ≤ k
def Gone (er : Int) (w : World) (F M : Nat) (ps ps' : List PF) (clock : Nat) (lim arm : Int) (dn : Bool) (e : Ending) (w' : World) : Prop :=
  e = .returned (.int .i64 er) ∧ Went w F M ps ps' clock lim arm dn w'
theorem Kept.ofF {w w' : World} {F M : Nat} {ps : List PF} (h : Kept (fun k => k = F) w w') : Kept (fun k => k ∈ foot F M ps) w w' := h.mono fun k _ e => by subst e; simp [foot]
theorem FilesAt.hit {w w' : World} {F M : Nat} {ps : List PF} {clock : Nat} {lim arm : Int} {dn : Bool} (h : FilesAt w F M ps clock lim arm dn) {b : Bool} (hb : FB w' F M lim (decA arm) b) (hk : Kept (fun k => k = F) w w') : FilesAt w' F M ps clock lim (decA arm) b :=
  h.own hk hb h.lim0 (decA_r h.arm0)
theorem FilesAt.hitW {w w' : World} {F M : Nat} {ps : List PF} {clock : Nat} {lim arm : Int} {dn : Bool} (h : FilesAt w F M ps clock lim arm dn) {b : Bool} (hb : FB w' F M lim (decA arm) b) (hk : Kept (fun k => k = F) w w') : Went w F M ps ps clock lim (decA arm) b w' :=
  ⟨h.hit hb hk, hk.ofF, fun k hk => .inl hk⟩
set_option maxHeartbeats 1000000 in
theorem sync_no (pv : Value) (s : ByteArray) (er : Int) (her : (er == 0) = false) (w : World) (h : Hid (No pv s er w)) : Calls Tryz.prog 36 #[pv, .string s] w (Ret er w) := by
  go_enter Tryz.func36, Tryz.ntmps36
  go_wp2_with (go_at_call 50; refine h.out.mono ?_; rintro e w' ⟨rfl, rfl⟩)
  go_ret
  exact ⟨rfl, rfl⟩
set_option maxHeartbeats 1000000 in
theorem trunc_no (pv : Value) (s : ByteArray) (n : Int) (er : Int) (her : (er == 0) = false) (w : World) (h : Hid (No pv s er w)) : Calls Tryz.prog 30 #[pv, .string s, .int .i64 n] w (Ret er w) := by
  go_enter Tryz.func30, Tryz.ntmps30
  go_wp2_with (go_at_call 50; refine h.out.mono ?_; rintro e w' ⟨rfl, rfl⟩)
  go_ret
  exact ⟨rfl, rfl⟩
set_option maxHeartbeats 1000000 in
theorem rename_no (pv : Value) (s t : ByteArray) (er : Int) (her : (er == 0) = false) (w : World) (h : Hid (No pv s er w)) : Calls Tryz.prog 47 #[pv, .string s, .string t] w (Ret er w) := by
  go_enter Tryz.func47, Tryz.ntmps47
  go_wp2_with (go_at_call 50; refine h.out.mono ?_; rintro e w' ⟨rfl, rfl⟩)
  go_ret
  exact ⟨rfl, rfl⟩
set_option maxHeartbeats 1000000 in
theorem remove_no (pv : Value) (s : ByteArray) (er : Int) (her : (er == 0) = false) (w : World) (h : Hid (No pv s er w)) : Calls Tryz.prog 27 #[pv, .string s] w (Ret er w) := by
  go_enter Tryz.func27, Tryz.ntmps27
  go_wp2_with (go_at_call 50; refine h.out.mono ?_; rintro e w' ⟨rfl, rfl⟩)
  go_ret
  exact ⟨rfl, rfl⟩

/-! ### Sync -/
set_option maxHeartbeats 1000000 in
theorem sync_hit (w : World) (F M : Nat) (lim : Int) (l1 l2 : List PF) (p : PF) (clock : Nat) (h : FilesAt w F M (l1 ++ p :: l2) clock lim 1 false) :
    Calls Tryz.prog 36 #[.pointer (some ⟨F, 0, none⟩), .string p.name] w (Gone 13 w F M (l1 ++ p :: l2) (l1 ++ p :: l2) clock lim (decA 1) true) := by
  have HF := Lib.hid h
  have H := Lib.hid (there_some w F M lim 1 l1 l2 p clock h)
  have HH := Lib.hid (hit_any w F M lim 1 h.fb (by omega))
  clear h
  go_enter Tryz.func36, Tryz.ntmps36
  go_wp2_with (first | (go_at_call 50; refine H.out.mono ?_; rintro e w' ⟨rfl, rfl⟩) | (go_at_call 51; refine HH.out.mono ?_; rintro e w' ⟨rfl, hfb, hk⟩; simp only [decide_true] at hfb ⊢))
  go_ret
  exact ⟨rfl, HF.out.hitW hfb hk⟩
/-- One file's blocks turn, those of others stay. -/
theorem FilesAt.one {w w' : World} {F M : Nat} {l1 l2 : List PF} {p q : PF} {clock : Nat} {lim arm : Int} {dn : Bool} (h : FilesAt w F M (l1 ++ p :: l2) clock lim arm dn) (hk : Kept (fun k => k ∈ p.blocks) w w') (hq : q.At w')
    (hn : q.name = p.name) (hb : q.born = p.born) (hblk : q.blk = p.blk) (hv : ∀ k, q.val.ownBlock = some k → p.val.ownBlock = some k ∨ w.heap.size ≤ k) : Went w F M (l1 ++ p :: l2) (l1 ++ q :: l2) clock lim arm dn w' :=
  ⟨h.replace hk hq hn hb hblk hv, hk.mono fun k _ hk => mem_foot (p := p) (by simp) hk, fun k hk => by
    have hqb : k ∈ q.blocks → k ∈ foot F M (l1 ++ p :: l2) ∨ w.heap.size ≤ k := by
      intro hk
      rcases List.mem_cons.1 hk with rfl | hk
      · exact .inl (by rw [hblk]; exact mem_foot (p := p) (by simp) (List.mem_cons_self ..))
      · rcases hv k (by simpa using hk) with h' | h'
        · exact .inl (mem_foot (p := p) (by simp) (List.mem_cons_of_mem _ (by simp [h'])))
        · exact .inr h'
    simp only [foot, List.flatMap_append, List.flatMap_cons, List.mem_cons, List.mem_append] at hk hqb ⊢
    rcases hk with hk | hk | hk | hk | hk
    · simp [hk]
    · simp [hk]
    · simp [hk]
    · exact hqb hk
    · simp [hk]⟩
theorem Went.trans {w w1 w2 : World} {F M : Nat} {p1 p2 p3 : List PF} {c1 c2 : Nat} {l1 l2 a1 a2 : Int} {d1 d2 : Bool} (h : Went w F M p1 p2 c1 l1 a1 d1 w1) (k : Went w1 F M p2 p3 c2 l2 a2 d2 w2) : Went w F M p1 p3 c2 l2 a2 d2 w2 :=
  ⟨k.at_, h.kept.trans k.kept fun i hi hm => (h.feet i hm).resolve_right (by omega), fun i hm => (k.feet i hm).elim (fun hm => h.feet i hm) fun hm => .inr (Nat.le_trans h.kept.size hm)⟩
theorem PF.At.safeTo {w : World} {p : PF} (h : p.At w) {n : Nat} (hn : n ≤ p.b.length) : ({ p with safe := n } : PF).At (w.setCell ⟨p.blk, 1, none⟩ (.int .i64 n)) := by
  have hne : p.val.ownBlock ≠ some p.blk → Kept (fun k => k = p.blk) w (w.setCell ⟨p.blk, 1, none⟩ (.int .i64 n)) := fun _ => kF _ _ _ _
  refine ⟨?_, ?_, hn, h.len⟩
  · unfold World.setCell; simp only [Array.getElem?_modify, if_true, h.cell]; rfl
  · by_cases hb : p.val.ownBlock = some p.blk
    · rcases h.own.2 with ⟨hv, _⟩ | ⟨g, cap, cur, hv, _, hh, _⟩
      · rw [hv] at hb; cases hb
      · have hg : g = p.blk := by rw [hv] at hb; simpa [Value.ownBlock] using hb
        subst hg
        have := h.cell
        rw [hh] at this
        injection this with this
        injection this with _ this
        exact absurd this (by decide)
    · exact own_kept h.own (hne hb) fun k e e2 => hb (by rw [e, e2])
set_option maxHeartbeats 1000000 in
theorem sync_ok (w : World) (F M : Nat) (lim arm : Int) (l1 l2 : List PF) (p : PF) (clock : Nat) (ha : arm ≠ 1) (h : FilesAt w F M (l1 ++ p :: l2) clock lim arm false) :
    Calls Tryz.prog 36 #[.pointer (some ⟨F, 0, none⟩), .string p.name] w (Gone 0 w F M (l1 ++ p :: l2) (l1 ++ { p with safe := p.b.length } :: l2) clock lim (decA arm) false) := by
  have HF := Lib.hid h
  have H := Lib.hid (there_some w F M lim arm l1 l2 p clock h)
  have HH := Lib.hid (hit_any w F M lim arm h.fb h.arm0)
  have Hd := Lib.hid (show decide (arm = 1) = false by simp [ha])
  clear h ha
  go_enter Tryz.func36, Tryz.ntmps36
  go_wp2_with (first | (go_at_call 50; refine H.out.mono ?_; rintro e w' ⟨rfl, rfl⟩) | (go_at_call 51; refine HH.out.mono ?_; rintro e w' ⟨rfl, hfb, hk⟩; rw [Hd.out] at hfb ⊢; have HW := Lib.hid (HF.out.hitW hfb hk); have hp := HW.out.at_.at_ p (by simp); obtain ⟨A, c, hv, hlen, hbs, hA, _⟩ := Bs.of_own hp.own; have hc := hp.c0; rw [hv] at hc; have HP := Lib.hid hp; have f1 := hp.fz 1; have h1 := hp.c1; have hl := hp.len; clear hp hfb hk hv hbs hA))
  go_ret
  exact ⟨rfl, HW.out.trans (HW.out.at_.one (q := { p with safe := p.b.length }) ((kF _ _ _ _).mono fun k _ e => by subst e; exact List.mem_cons_self ..) (HP.out.safeTo (Nat.le_refl _)) rfl rfl rfl fun k e => .inl e)⟩
end Go.Proofs.YthkncfdgfbnchaaGreatDoor
