import Derived.Test.YtibalgfejfjndaaGreatDoorMaa
import Derived.Deep.RegionWith
import Derived.Deep.RegionHeld3
import Derived.Deep.QuietTactic
import Derived.BigQuiet
import Derived.IntWalk
import Derived.Laws.AppendOwnNone
/-! Package files: New, Clone of bytes, Append, Sync, Truncate, Rename, Remove, Read. -/
section
set_option linter.unusedVariables false
set_option linter.unusedSimpArgs false
namespace Go.Proofs.YtibalgfejfjndaaGreatDoor
open Go.RowKit

theorem infoU8 : (Tryz.prog.info? 5).map (fun i => (i.zero, i.size, i.bytes)) = some (some (.int .u8 0), 1, 1) := by kernel_rfl
theorem build0 (w : World) : (Instr.buildSlice 30 0 #[]).run Tryz.prog w = .ok (.slice (some ⟨w.heap.size, 0, none⟩) 0 0) (w.alloc (.cells #[] 5)) := by kernel_rfl

def ClonePost (w : World) (xs : List UInt8) (e : Ending) (w' : World) : Prop :=
  ∃ v, e = .returned v ∧ w'.ownsRow w.heap.size 5 1 v xs.length (xs.map bv) ∧ Kept (fun _ => False) w w'
set_option maxRecDepth 100000 in
set_option maxHeartbeats 1000000 in
theorem clone_nil (w : World) : Calls Tryz.prog 39 #[.slice none 0 0] w (ClonePost w []) := by
  have hne : (binOp .eql 30 (.slice none 0 0) (.slice none 0 0)).run Tryz.prog w = .ok (.bool true) w := by kernel_rfl
  go_enter Tryz.func39, Tryz.ntmps39
  go_wp2
  go_ret
  exact ⟨_, rfl, World.ownsRow_nil _ _ _ _, Kept.refl _ _⟩
set_option maxHeartbeats 1000000 in
theorem clone_some (w : World) (a : Addr) (n c : Nat) (xs : List UInt8) (hn : Hid (n = xs.length)) (hl : n ≤ 1000000000) (h : Bs w (some a) xs) : Calls Tryz.prog 39 #[.slice (some a) n c] w (ClonePost w xs) := by
  obtain ⟨i0, hi, hz0, hz1, hz2⟩ := info_parts infoU8
  have H := Lib.hid h
  have hb := build0 w
  have hown : (w.alloc (.cells #[] 5)).ownsRow w.heap.size 5 1 (.slice (some ⟨w.heap.size, 0, none⟩) 0 0) 0 [] :=
    ⟨by simp, .inr ⟨w.heap.size, 0, #[], rfl, Nat.le_refl _, heap_alloc_new w _, Nat.le_refl _, by simp, by simp, by simp⟩⟩
  have HO := Lib.hid hown
  have hkp : Kept (fun _ => False) w (w.alloc (.cells #[] 5)) := (Kept.refl _ w).alloc _
  have HK := Lib.hid hkp
  have hne : (binOp .eql 30 (.slice (some a) n c) (.slice none 0 0)).run Tryz.prog w = .ok (.bool false) w := by
    kernel_rfl
  clear h hown hkp
  go_enter Tryz.func39, Tryz.ntmps39
  go_wp2_with (at_builtin; refine wpList_append_own _ rfl _ _ 30 rfl w.heap.size 5 i0 (.int .u8 0) 1 1 Tryz.underlying30 hi hz0 hz1 hz2 rfl (by decide) _ 0 [] rfl HO.out a n c (xs.map bv) rfl ?c1 ?c2 ?c3 ?c4 ?c5 ?c6 ?_; rotate_right; intro v' w1 hown hgrow hnil)
  case c1 => simp [hn.out]
  case c2 => exact (H.out.kept HK.out (by simp)).2 a rfl
  case c3 => exact bv_one xs
  case c4 => unfold maxLen; omega
  case c5 => omega
  case c6 => simp
  simp only [Nat.zero_add, List.nil_append] at hown
  rw [hn.out] at hown
  go_ret
  exact ⟨v', rfl, hown, HK.out.grown hgrow (fun k e hk => by
    have : w.heap.size = k := by simpa [Value.ownBlock, Act.eval] using e
    omega)⟩
theorem clone_any (w : World) (A : Option Addr) (n c : Nat) (xs : List UInt8) (hn : n = xs.length) (hl : n ≤ 1000000000) (h : Bs w A xs) (hA : A = none → c = 0) : Calls Tryz.prog 39 #[.slice A n c] w (ClonePost w xs) := by
  cases A with
  | none =>
    have h1 := h.1 rfl
    have h2 := hA rfl
    subst h1; subst h2
    simp only [List.length_nil] at hn
    subst hn
    exact clone_nil w
  | some a => exact clone_some w a n c xs hn hl h

/-! ### New -/
def NewPost (w : World) (n : Int) (e : Ending) (w' : World) : Prop :=
  ∃ F M, e = .returned (.pointer (some ⟨F, 0, none⟩)) ∧ FilesAt w' F M [] 0 (boundI n) 0 false ∧ Kept (fun _ => False) w w' ∧ w.heap.size ≤ F ∧ w.heap.size ≤ M
set_option maxHeartbeats 1000000 in
theorem new_any (w : World) (n : Int) : Calls Tryz.prog 4 #[.int .i64 n] w (NewPost w n) := by
  have hmm := @run_makeMap Tryz.prog
  have Hr := Lib.hid (boundI_r n)
  obtain ⟨b, hb⟩ : ∃ b, b = boundI n := ⟨_, rfl⟩
  have HB := Lib.hid (bound_any n (w.alloc (.map #[] 0)))
  rw [← hb] at HB Hr
  have hbu : (Instr.build 45 #[(0, .map (some w.heap.size)), (1, .int .i64 b)]).run Tryz.prog (w.alloc (.map #[] 0)) = .ok (.agg #[.map (some w.heap.size), .int .i64 b, .int .i64 0, .bool false]) (w.alloc (.map #[] 0)) := by kernel_rfl
  have Hb := Lib.hid hb
  clear hb
  go_enter Tryz.func4, Tryz.ntmps4
  go_wp2_with (go_at_call 8; refine HB.out.mono ?_; rintro e w' ⟨rfl, rfl⟩)
  go_ret
  refine ⟨w.heap.size + 1, w.heap.size, rfl, ⟨?_, ?_, by simp, by simp, by simp, by simp, ?_, ?_, by omega⟩, ((Kept.refl _ w).alloc _).alloc _, by omega, Nat.le_refl _⟩
  · rw [← Hb.out]
    have := heap_alloc_new (w.alloc (.map #[] 0)) (.cells #[.map (some w.heap.size), .int .i64 b, .int .i64 0, .bool false] 45)
    rw [World.size_alloc] at this
    exact this
  · rw [Below.heap_alloc _ _ _ (by rw [World.size_alloc]; omega)]
    exact heap_alloc_new w _
  · simp [foot]
  · rw [← Hb.out]; exact Hr.out

/-! ### Read -/
def ReadPost (w : World) (F M : Nat) (xs : List UInt8) (er : Int) (e : Ending) (w' : World) : Prop :=
  ∃ v, e = .returned (.tuple #[v, .int .i64 er]) ∧ w'.ownsRow w.heap.size 5 1 v xs.length (xs.map bv) ∧ Kept (fun _ => False) w w'
theorem read_nil (s : ByteArray) (w : World) : Calls Tryz.prog 13 #[.pointer none, .string s] w (ReadPost w 0 0 [] 2) := by
  go_enter Tryz.func13, Tryz.ntmps13
  go_wp2_with (go_at_call 38; refine (there_nil _ _).mono ?_; rintro e w' ⟨rfl, rfl⟩)
  go_ret2
  exact ⟨_, rfl, World.ownsRow_nil _ _ _ _, Kept.refl _ _⟩
theorem read_down (s : ByteArray) (w : World) (F M : Nat) (lim arm : Int) (h : FB w F M lim arm true) : Calls Tryz.prog 13 #[.pointer (some ⟨F, 0, none⟩), .string s] w (ReadPost w F M [] 13) := by
  have H := Lib.hid (there_down s w F M lim arm h)
  clear h
  go_enter Tryz.func13, Tryz.ntmps13
  go_wp2_with (go_at_call 38; refine H.out.mono ?_; rintro e w' ⟨rfl, rfl⟩)
  go_ret2
  exact ⟨_, rfl, World.ownsRow_nil _ _ _ _, Kept.refl _ _⟩
theorem read_none (s : ByteArray) (w : World) (F M : Nat) (lim arm : Int) (ps : List PF) (clock : Nat) (h : FilesAt w F M ps clock lim arm false) (hn : ∀ p ∈ ps, p.name ≠ s) :
    Calls Tryz.prog 13 #[.pointer (some ⟨F, 0, none⟩), .string s] w (ReadPost w F M [] 8) := by
  have H := Lib.hid (there_none s w F M lim arm ps clock h hn)
  clear h hn
  go_enter Tryz.func13, Tryz.ntmps13
  go_wp2_with (go_at_call 38; refine H.out.mono ?_; rintro e w' ⟨rfl, rfl⟩)
  go_ret2
  exact ⟨_, rfl, World.ownsRow_nil _ _ _ _, Kept.refl _ _⟩
theorem PF.At.c0 {w : World} {p : PF} (h : p.At w) : w.cell? ⟨p.blk, 0, none⟩ = some p.val := by simp [World.cell?, h.cell]
theorem PF.At.c1 {w : World} {p : PF} (h : p.At w) : w.cell? ⟨p.blk, 1, none⟩ = some (.int .i64 p.safe) := by simp [World.cell?, h.cell]
theorem PF.At.fz {w : World} {p : PF} (h : p.At w) (i : Nat) : w.frozen? ⟨p.blk, i, none⟩ = false := by simp [World.frozen?, h.cell]
theorem read_some (w : World) (F M : Nat) (lim arm : Int) (l1 l2 : List PF) (p : PF) (clock : Nat) (h : FilesAt w F M (l1 ++ p :: l2) clock lim arm false) :
    Calls Tryz.prog 13 #[.pointer (some ⟨F, 0, none⟩), .string p.name] w (ReadPost w F M p.b 0) := by
  have H := Lib.hid (there_some w F M lim arm l1 l2 p clock h)
  have hp := h.at_ p (by simp)
  obtain ⟨A, c, hv, hlen, hbs, hA, _⟩ := Bs.of_own hp.own
  have hc := hp.c0
  rw [hv] at hc
  have HC := Lib.hid (clone_any w A p.b.length c p.b rfl (by have := hp.len; omega) hbs hA)
  clear h hp hv hlen hbs hA
  go_enter Tryz.func13, Tryz.ntmps13
  go_wp2_with (first | (go_at_call 38; refine H.out.mono ?_; rintro e w' ⟨rfl, rfl⟩) | (go_at_call 39; refine HC.out.mono ?_; rintro e w' ⟨v, rfl, hown, hk⟩))
  go_ret2
  exact ⟨v, rfl, hown, hk⟩
end Go.Proofs.YtibalgfejfjndaaGreatDoor
end

/-! Package files: Sync, Truncate, Rename, Remove. -/
section
set_option linter.unusedVariables false
set_option linter.unusedSimpArgs false
namespace Go.Proofs.YtibalgfejfjndaaGreatDoor
open Go.RowKit

/-- 'there' says no. -/
def No (pv : Value) (s : ByteArray) (er : Int) (w : World) : Prop :=
  Calls Tryz.prog 38 #[pv, .string s] w fun e w' => e = .returned (.tuple #[.pointer none, .int .i64 er]) ∧ w = w'
def Ret (er : Int) (w : World) (e : Ending) (w' : World) : Prop := e = .returned (.int .i64 er) ∧ w = w'
structure Went (w : World) (F M : Nat) (ps ps' : List PF) (clock : Nat) (lim arm : Int) (dn : Bool) (w' : World) : Prop where
  at_ : FilesAt w' F M ps' clock lim arm dn
  kept : Kept (fun k => k ∈ foot F M ps) w w'
  feet : ∀ k ∈ foot F M ps', k ∈ foot F M ps ∨ w.heap.size ≤ k
def Gone (er : Int) (w : World) (F M : Nat) (ps ps' : List PF) (clock : Nat) (lim arm : Int) (dn : Bool) (e : Ending) (w' : World) : Prop :=
  e = .returned (.int .i64 er) ∧ Went w F M ps ps' clock lim arm dn w'
theorem Kept.ofF {w w' : World} {F M : Nat} {ps : List PF} (h : Kept (fun k => k = F) w w') : Kept (fun k => k ∈ foot F M ps) w w' := h.mono fun k _ e => by subst e; simp [foot]
theorem FilesAt.hit {w w' : World} {F M : Nat} {ps : List PF} {clock : Nat} {lim arm : Int} {dn : Bool} (h : FilesAt w F M ps clock lim arm dn) {b : Bool} (hb : FB w' F M lim (decA arm) b) (hk : Kept (fun k => k = F) w w') : FilesAt w' F M ps clock lim (decA arm) b :=
  h.own hk hb h.lim0 (decA_r h.arm0)
theorem FilesAt.hitW {w w' : World} {F M : Nat} {ps : List PF} {clock : Nat} {lim arm : Int} {dn : Bool} (h : FilesAt w F M ps clock lim arm dn) {b : Bool} (hb : FB w' F M lim (decA arm) b) (hk : Kept (fun k => k = F) w w') : Went w F M ps ps clock lim (decA arm) b w' :=
  ⟨h.hit hb hk, hk.ofF, fun k hk => .inl hk⟩
set_option maxHeartbeats 1000000 in
theorem sync_no (pv : Value) (s : ByteArray) (er : Int) (her : (er == 0) = false) (w : World) (h : Hid (No pv s er w)) : Calls Tryz.prog 50 #[pv, .string s] w (Ret er w) := by
  go_enter Tryz.func50, Tryz.ntmps50
  go_wp2_with (go_at_call 38; refine h.out.mono ?_; rintro e w' ⟨rfl, rfl⟩)
  go_ret
  exact ⟨rfl, rfl⟩
set_option maxHeartbeats 1000000 in
theorem trunc_no (pv : Value) (s : ByteArray) (n : Int) (er : Int) (her : (er == 0) = false) (w : World) (h : Hid (No pv s er w)) : Calls Tryz.prog 16 #[pv, .string s, .int .i64 n] w (Ret er w) := by
  go_enter Tryz.func16, Tryz.ntmps16
  go_wp2_with (go_at_call 38; refine h.out.mono ?_; rintro e w' ⟨rfl, rfl⟩)
  go_ret
  exact ⟨rfl, rfl⟩
set_option maxHeartbeats 1000000 in
theorem remove_no (pv : Value) (s : ByteArray) (er : Int) (her : (er == 0) = false) (w : World) (h : Hid (No pv s er w)) : Calls Tryz.prog 15 #[pv, .string s] w (Ret er w) := by
  go_enter Tryz.func15, Tryz.ntmps15
  go_wp2_with (go_at_call 38; refine h.out.mono ?_; rintro e w' ⟨rfl, rfl⟩)
  go_ret
  exact ⟨rfl, rfl⟩

/-! ### Sync -/
set_option maxHeartbeats 1000000 in
theorem sync_hit (w : World) (F M : Nat) (lim : Int) (l1 l2 : List PF) (p : PF) (clock : Nat) (h : FilesAt w F M (l1 ++ p :: l2) clock lim 1 false) :
    Calls Tryz.prog 50 #[.pointer (some ⟨F, 0, none⟩), .string p.name] w (Gone 13 w F M (l1 ++ p :: l2) (l1 ++ p :: l2) clock lim (decA 1) true) := by
  have HF := Lib.hid h
  have H := Lib.hid (there_some w F M lim 1 l1 l2 p clock h)
  have HH := Lib.hid (hit_any w F M lim 1 h.fb (by omega))
  clear h
  go_enter Tryz.func50, Tryz.ntmps50
  go_wp2_with (first | (go_at_call 38; refine H.out.mono ?_; rintro e w' ⟨rfl, rfl⟩) | (go_at_call 41; refine HH.out.mono ?_; rintro e w' ⟨rfl, hfb, hk⟩; simp only [decide_true] at hfb ⊢))
  go_ret
  exact ⟨rfl, HF.out.hitW hfb hk⟩
/-- One file's blocks turn, those of others stay. -/
theorem FilesAt.one {w w' : World} {F M : Nat} {l1 l2 : List PF} {p q : PF} {clock : Nat} {lim arm : Int} {dn : Bool} (h : FilesAt w F M (l1 ++ p :: l2) clock lim arm dn) (hk : Kept (fun k => k ∈ p.blocks) w w') (hq : q.At w')
    (hn : q.name = p.name) (hb : q.born = p.born) (hblk : q.blk = p.blk) (hv : ∀ k, q.val.ownBlock = some k → p.val.ownBlock = some k ∨ w.heap.size ≤ k) : Went w F M (l1 ++ p :: l2) (l1 ++ q :: l2) clock lim arm dn w' :=
  ⟨h.replace hk hq hn hb hblk hv, hk.mono fun k _ hk => mem_foot (p := p) (by simp) hk, fun k hk => by
    have hqb : k ∈ q.blocks → k ∈ foot F M (l1 ++ p :: l2) ∨ w.heap.size ≤ k := by
      intro hk
      rcases List.mem_cons.1 hk with rfl | hk
      · exact .inl (by rw [hblk]; exact mem_foot (p := p) (by simp) (List.mem_cons_self ..))
      · rcases hv k (by simpa using hk) with h' | h'
        · exact .inl (mem_foot (p := p) (by simp) (List.mem_cons_of_mem _ (by simp [h'])))
        · exact .inr h'
    simp only [foot, List.flatMap_append, List.flatMap_cons, List.mem_cons, List.mem_append] at hk hqb ⊢
    rcases hk with hk | hk | hk | hk | hk
    · simp [hk]
    · simp [hk]
    · simp [hk]
    · exact hqb hk
    · simp [hk]⟩
theorem Went.trans {w w1 w2 : World} {F M : Nat} {p1 p2 p3 : List PF} {c1 c2 : Nat} {l1 l2 a1 a2 : Int} {d1 d2 : Bool} (h : Went w F M p1 p2 c1 l1 a1 d1 w1) (k : Went w1 F M p2 p3 c2 l2 a2 d2 w2) : Went w F M p1 p3 c2 l2 a2 d2 w2 :=
  ⟨k.at_, h.kept.trans k.kept fun i hi hm => (h.feet i hm).resolve_right (by omega), fun i hm => (k.feet i hm).elim (fun hm => h.feet i hm) fun hm => .inr (Nat.le_trans h.kept.size hm)⟩
theorem PF.At.safeTo {w : World} {p : PF} (h : p.At w) {n : Nat} (hn : n ≤ p.b.length) : ({ p with safe := n } : PF).At (w.setCell ⟨p.blk, 1, none⟩ (.int .i64 n)) := by
  have hne : p.val.ownBlock ≠ some p.blk → Kept (fun k => k = p.blk) w (w.setCell ⟨p.blk, 1, none⟩ (.int .i64 n)) := fun _ => kF _ _ _ _
  refine ⟨?_, ?_, hn, h.len⟩
  · unfold World.setCell; simp only [Array.getElem?_modify, if_true, h.cell]; rfl
  · by_cases hb : p.val.ownBlock = some p.blk
    · rcases h.own.2 with ⟨hv, _⟩ | ⟨g, cap, cur, hv, _, hh, _⟩
      · rw [hv] at hb; cases hb
      · have hg : g = p.blk := by rw [hv] at hb; simpa [Value.ownBlock] using hb
        subst hg
        have := h.cell
        rw [hh] at this
        injection this with this
        injection this with _ this
        exact absurd this (by decide)
    · exact own_kept h.own (hne hb) fun k e e2 => hb (by rw [e, e2])
set_option maxHeartbeats 1000000 in
theorem sync_ok (w : World) (F M : Nat) (lim arm : Int) (l1 l2 : List PF) (p : PF) (clock : Nat) (ha : arm ≠ 1) (h : FilesAt w F M (l1 ++ p :: l2) clock lim arm false) :
    Calls Tryz.prog 50 #[.pointer (some ⟨F, 0, none⟩), .string p.name] w (Gone 0 w F M (l1 ++ p :: l2) (l1 ++ { p with safe := p.b.length } :: l2) clock lim (decA arm) false) := by
  have HF := Lib.hid h
  have H := Lib.hid (there_some w F M lim arm l1 l2 p clock h)
  have HH := Lib.hid (hit_any w F M lim arm h.fb h.arm0)
  have Hd := Lib.hid (show decide (arm = 1) = false by simp [ha])
  clear h ha
  go_enter Tryz.func50, Tryz.ntmps50
  go_wp2_with (first | (go_at_call 38; refine H.out.mono ?_; rintro e w' ⟨rfl, rfl⟩) | (go_at_call 41; refine HH.out.mono ?_; rintro e w' ⟨rfl, hfb, hk⟩; rw [Hd.out] at hfb ⊢; have HW := Lib.hid (HF.out.hitW hfb hk); have hp := HW.out.at_.at_ p (by simp); obtain ⟨A, c, hv, hlen, hbs, hA, _⟩ := Bs.of_own hp.own; have hc := hp.c0; rw [hv] at hc; have HP := Lib.hid hp; have f1 := hp.fz 1; have h1 := hp.c1; have hl := hp.len; clear hp hfb hk hv hbs hA))
  go_ret
  exact ⟨rfl, HW.out.trans (HW.out.at_.one (q := { p with safe := p.b.length }) ((kF _ _ _ _).mono fun k _ e => by subst e; exact List.mem_cons_self ..) (HP.out.safeTo (Nat.le_refl _)) rfl rfl rfl fun k e => .inl e)⟩
end Go.Proofs.YtibalgfejfjndaaGreatDoor
end

/-! Package files: Truncate. -/
section
set_option linter.unusedVariables false
set_option linter.unusedSimpArgs false
namespace Go.Proofs.YtibalgfejfjndaaGreatDoor
open Go.RowKit

set_option maxHeartbeats 1000000 in
theorem trunc_neg (w : World) (F M : Nat) (lim arm : Int) (l1 l2 : List PF) (p : PF) (clock : Nat) (n : Int) (hn : n < 0) (h : FilesAt w F M (l1 ++ p :: l2) clock lim arm false) :
    Calls Tryz.prog 16 #[.pointer (some ⟨F, 0, none⟩), .string p.name, .int .i64 n] w (Ret 1 w) := by
  have H := Lib.hid (there_some w F M lim arm l1 l2 p clock h)
  clear h
  go_enter Tryz.func16, Tryz.ntmps16
  go_wp2_with (go_at_call 38; refine H.out.mono ?_; rintro e w' ⟨rfl, rfl⟩)
  go_ret
  exact ⟨rfl, rfl⟩
set_option maxHeartbeats 1000000 in
theorem trunc_far (w : World) (F M : Nat) (lim arm : Int) (l1 l2 : List PF) (p : PF) (clock : Nat) (n : Nat) (hn : p.b.length < n) (h : FilesAt w F M (l1 ++ p :: l2) clock lim arm false) :
    Calls Tryz.prog 16 #[.pointer (some ⟨F, 0, none⟩), .string p.name, .int .i64 n] w (Ret 1 w) := by
  have H := Lib.hid (there_some w F M lim arm l1 l2 p clock h)
  have hp := h.at_ p (by simp)
  obtain ⟨A, c, hv, hlen, hbs, hA, _⟩ := Bs.of_own hp.own
  have hc := hp.c0
  rw [hv] at hc
  have hpl := hp.len
  clear h hp hbs hv hA
  go_enter Tryz.func16, Tryz.ntmps16
  go_wp2_with (go_at_call 38; refine H.out.mono ?_; rintro e w' ⟨rfl, rfl⟩)
  go_ret
  exact ⟨rfl, rfl⟩
set_option maxHeartbeats 1000000 in
theorem trunc_hit (w : World) (F M : Nat) (lim : Int) (l1 l2 : List PF) (p : PF) (clock : Nat) (n : Nat) (hn : n ≤ p.b.length) (h : FilesAt w F M (l1 ++ p :: l2) clock lim 1 false) :
    Calls Tryz.prog 16 #[.pointer (some ⟨F, 0, none⟩), .string p.name, .int .i64 n] w (Gone 13 w F M (l1 ++ p :: l2) (l1 ++ p :: l2) clock lim (decA 1) true) := by
  have HF := Lib.hid h
  have H := Lib.hid (there_some w F M lim 1 l1 l2 p clock h)
  have HH := Lib.hid (hit_any w F M lim 1 h.fb (by omega))
  have hp := h.at_ p (by simp)
  obtain ⟨A, c, hv, hlen, hbs, hA, _⟩ := Bs.of_own hp.own
  have hc := hp.c0
  rw [hv] at hc
  have hpl := hp.len
  clear h hp hbs hv hA
  go_enter Tryz.func16, Tryz.ntmps16
  go_wp2_with (first | (go_at_call 38; refine H.out.mono ?_; rintro e w' ⟨rfl, rfl⟩) | (go_at_call 41; refine HH.out.mono ?_; rintro e w' ⟨rfl, hfb, hk⟩; simp only [decide_true] at hfb ⊢))
  go_ret
  exact ⟨rfl, HF.out.hitW hfb hk⟩
/-- A file is stored anew. -/
theorem own_ne {w : World} {base n : Nat} {v v0 s0 : Value} {xs : List Value} {blk : Nat} (hown : w.ownsRow base 5 1 v n xs) (hc : w.heap[blk]? = some (.cells #[v0, s0] 89 (0, 0))) : ∀ k, v.ownBlock = some k → k ≠ blk := by
  intro k hk e
  subst e
  rcases hown.2 with ⟨hv, _⟩ | ⟨g, cap, cur, hv, _, hh, _⟩
  · rw [hv] at hk; cases hk
  · have hg : g = k := by rw [hv] at hk; simpa [Value.ownBlock] using hk
    subst hg
    rw [hh] at hc
    injection hc with hc
    injection hc with _ hc
    exact absurd hc (by decide)
theorem own_base {w : World} {base : Nat} {e : TypeId} {size n : Nat} {v : Value} {xs : List Value} (h : w.ownsRow base e size v n xs) : w.ownsRow 0 e size v n xs := by
  refine ⟨h.1, ?_⟩
  rcases h.2 with h' | ⟨g, cap, cur, hv, _, r⟩
  · exact .inl h'
  · exact .inr ⟨g, cap, cur, hv, Nat.zero_le _, r⟩
theorem At.store0 {w : World} {blk : Nat} {v0 v : Value} {s born : Nat} {name : ByteArray} {xs : List UInt8} (hc : w.heap[blk]? = some (.cells #[v0, .int .i64 s] 89 (0, 0))) (hown : w.ownsRow 0 5 1 v xs.length (xs.map bv))
    (hs : s ≤ xs.length) (hl : xs.length ≤ 4194304) : (PF.mk name xs s blk v born).At (w.setCell ⟨blk, 0, none⟩ v) := by
  refine ⟨?_, own_kept hown (kF w blk 0 v) (own_ne hown hc), hs, hl⟩
  unfold World.setCell; simp only [Array.getElem?_modify, if_true, hc]; rfl
theorem At.store {w : World} {blk : Nat} {v0 v s0 : Value} {s born : Nat} {name : ByteArray} {xs : List UInt8} (hc : w.heap[blk]? = some (.cells #[v0, s0] 89 (0, 0))) (hown : w.ownsRow 0 5 1 v xs.length (xs.map bv))
    (hs : s ≤ xs.length) (hl : xs.length ≤ 4194304) : (PF.mk name xs s blk v born).At ((w.setCell ⟨blk, 0, none⟩ v).setCell ⟨blk, 1, none⟩ (.int .i64 s)) := by
  refine ⟨?_, own_kept (own_kept hown (kF w blk 0 v) (own_ne hown hc)) (kF _ blk 1 _) (own_ne hown hc), hs, hl⟩
  unfold World.setCell; simp only [Array.getElem?_modify, if_true, hc]; rfl
theorem own_cap {w : World} {base n n' c : Nat} {e : TypeId} {A : Option Addr} {xs : List Value} (h : w.ownsRow base e 1 (.slice A n c) n' xs) : n ≤ c ∧ (A.map (·.add 0)) = A := by
  rcases h.2 with ⟨hv, _⟩ | ⟨g, cap, cur, hv, _, _, hc, _⟩
  · injection hv with e1 e2 e3; subst e1; subst e2; subst e3; exact ⟨Nat.le_refl _, rfl⟩
  · injection hv with e1 e2 e3; subst e1; subst e2; subst e3; exact ⟨hc, rfl⟩
theorem slice_run (W : World) (A : Option Addr) (l n c : Nat) (hA : (A.map (·.add 0)) = A) (hn : n ≤ c) : (Instr.slice 30 (.slice A l c) none (some (.int .i64 n)) none).run Tryz.prog W = .ok (.slice A n c) W := by
  have hsz : ∀ W, (sizeOf 5).run Tryz.prog W = .ok 1 W := fun W => by kernel_rfl
  have h1 : (0 : Int) ≤ (n : Int) ∧ (n : Int) ≤ (c : Int) := by omega
  simp only [Instr.slice, Sem.run_bind, run_underlying Tryz.underlying30, Result.andThen, Instr.sliceBounds, Instr.sliceBound, asIntOf, Sem.run_pure, if_pos h1, hsz, Int.toNat_natCast, Nat.zero_mul, Nat.sub_zero]
  split
  · rfl
  · rw [hA]

theorem trunc_end {w w' w2 : World} {F M : Nat} {l1 l2 : List PF} {p : PF} {clock n : Nat} {lim arm : Int} {dn : Bool} {A2 : Option Addr} {c2 : Nat}
    (HW : Went w F M (l1 ++ p :: l2) (l1 ++ p :: l2) clock lim arm dn w') (HK2 : Kept (fun _ => False) w'.drew w2) (HP2 : PF.At w2 p) (hn : n ≤ p.b.length) (m : Int) (hm : m = ((min p.safe n : Nat) : Int))
    (HO2 : w2.ownsRow w'.drew.heap.size 5 1 (.slice A2 (p.b.take n).length c2) (p.b.take n).length ((p.b.take n).map bv)) :
    Went w F M (l1 ++ p :: l2) (l1 ++ { p with b := p.b.take n, safe := min p.safe n, val := .slice A2 n c2 } :: l2) clock lim arm dn ((w2.setCell ⟨p.blk, 0, none⟩ (.slice A2 n c2)).setCell ⟨p.blk, 1, none⟩ (.int .i64 m)) := by
  have hlt : (p.b.take n).length = n := by simp; omega
  have hob : ∀ k, (Value.slice A2 n c2).ownBlock = some k → w'.heap.size ≤ k := by
    intro k hk
    rcases HO2.2 with ⟨hv, _⟩ | ⟨g, cap, cur, hv, hb, _⟩
    · injection hv with e1; subst e1; cases hk
    · injection hv with e1; subst e1
      have : g = k := by simpa [Value.ownBlock] using hk
      subst this; exact hb
  have hO := own_base HO2
  rw [hlt] at hO
  have hps := HP2.safe
  have hpl := HP2.len
  subst hm
  refine HW.trans (HW.at_.one (q := { p with b := p.b.take n, safe := min p.safe n, val := .slice A2 n c2 }) ?_ (At.store HP2.cell (by rw [hlt]; exact hO) (by rw [hlt]; omega) (by rw [hlt]; omega)) rfl rfl rfl fun k e => .inr (hob k e))
  exact ((((Kept.refl _ w').drew).trans' (HK2.mono fun _ _ h => h.elim)).trans' ((kF w2 p.blk 0 _).mono fun k _ e => by subst e; exact List.mem_cons_self ..)).trans' ((kF _ p.blk 1 _).mono fun k _ e => by subst e; exact List.mem_cons_self ..)
end Go.Proofs.YtibalgfejfjndaaGreatDoor
end

/-! Package files: Append, where it refuses. -/
section
set_option linter.unusedVariables false
set_option linter.unusedSimpArgs false
namespace Go.Proofs.YtibalgfejfjndaaGreatDoor
open Go.RowKit

def NoR (pv : Value) (er : Int) (w : World) : Prop := Calls Tryz.prog 64 #[pv] w fun e w' => e = .returned (.int .i64 er) ∧ w = w'
set_option maxHeartbeats 1000000 in
theorem append_no (pv : Value) (s : ByteArray) (bs : Value) (er : Int) (her : (er == 0) = false) (w : World) (h : Hid (NoR pv er w)) : Calls Tryz.prog 46 #[pv, .string s, bs] w (Ret er w) := by
  go_enter Tryz.func46, Tryz.ntmps46
  go_wp2_with (go_at_call 64; refine h.out.mono ?_; rintro e w' ⟨rfl, rfl⟩)
  go_ret
  exact ⟨rfl, rfl⟩
def Kin (er : Int) (w : World) (e : Ending) (w' : World) : Prop := e = .returned (.int .i64 er) ∧ Kept (fun _ => False) w w'
theorem ready_ok (w : World) (F M : Nat) (lim arm : Int) (ps : List PF) (clock : Nat) (h : FilesAt w F M ps clock lim arm false) : NoR (.pointer (some ⟨F, 0, none⟩)) 0 w := ready_any w F M lim arm false h.fb
set_option maxHeartbeats 1000000 in
theorem append_bad (s : ByteArray) (bs : Value) (w : World) (F M : Nat) (lim arm : Int) (ps : List PF) (clock : Nat) (hs : s.size ≤ 140737488355328) (hf : fullB s = false) (h : FilesAt w F M ps clock lim arm false) :
    Calls Tryz.prog 46 #[.pointer (some ⟨F, 0, none⟩), .string s, bs] w (Kin 6 w) := by
  have H := Lib.hid (ready_ok w F M lim arm ps clock h)
  have HN := Lib.hid (full_any s w hs)
  rw [hf] at HN
  clear h hf hs
  go_enter Tryz.func46, Tryz.ntmps46
  go_wp2_with (first | (go_at_call 64; refine H.out.mono ?_; rintro e w' ⟨rfl, rfl⟩) | (go_at_call 9; refine HN.out.mono ?_; rintro e w' ⟨rfl, hk⟩))
  go_ret
  exact ⟨rfl, hk⟩
set_option maxHeartbeats 2000000 in
theorem append_full (s : ByteArray) (A : Option Addr) (n c : Nat) (w : World) (F M : Nat) (lim arm : Int) (ps : List PF) (clock : Nat) (hs : s.size ≤ 140737488355328) (hf : fullB s = true) (h : FilesAt w F M ps clock lim arm false)
    (hu : usedL ps ≤ 4194304) (hn0 : 0 < n) (hn : n ≤ 1000000000) (hlim : lim < (n : Int) + (usedL ps : Int)) :
    Calls Tryz.prog 46 #[.pointer (some ⟨F, 0, none⟩), .string s, .slice A n c] w (Kin 14 w) := by
  have HF := Lib.hid h
  have H := Lib.hid (ready_ok w F M lim arm ps clock h)
  have HN := Lib.hid (full_any s w hs)
  rw [hf] at HN
  have hl0 := h.lim0
  have HU : Hid (∀ W, Kept (fun _ => False) w W → Calls Tryz.prog 69 #[.pointer (some ⟨F, 0, none⟩)] W fun e w' => e = .returned (.int .i64 (usedL ps)) ∧ Kept (fun _ => False) W w') :=
    Lib.hid fun W hk => used_any W F M lim arm false ps clock (h.kept hk (by simp)) (by omega)
  have HC1 : Hid (∀ W, Kept (fun _ => False) w W → W.cell? ⟨F, 1, none⟩ = some (.int .i64 lim)) := Lib.hid fun W hk => FB.c1 (h.kept hk (by simp)).fb
  obtain ⟨u, hud⟩ : ∃ u, u = usedL ps := ⟨_, rfl⟩
  rw [← hud] at HU hu hlim
  have hn' : (0 : Int) < (n : Int) := by omega
  have hcmp : lim - (u : Int) < (n : Int) := by omega
  have hw1 : IntKind.i64.wrap (lim - (u : Int)) = lim - (u : Int) := IntWalk.i64_in _ (by omega)
  clear h hf hs hud
  go_enter Tryz.func46, Tryz.ntmps46
  go_wp2_with (first | (go_at_call 64; refine H.out.mono ?_; rintro e w' ⟨rfl, rfl⟩) | (go_at_call 9; refine HN.out.mono ?_; rintro e w' ⟨rfl, hk⟩; have HK := Lib.hid hk; have hc1 := HC1.out _ hk; clear hk))
  go_region_held3 (fun W => W.cell? ⟨F, 1, none⟩ = some (.int .i64 lim)) (first | assumption | simp [*]) (first | (go_at_call 69; refine (HU.out _ HK.out.drew).mono ?_; rintro e w2 ⟨rfl, hk2⟩; have HK2 := Lib.hid (HK.out.drew.trans' hk2); have hc2 := HC1.out _ HK2.out; clear hk2))
  go_wp2
  go_ret
  exact ⟨rfl, HK2.out⟩
end Go.Proofs.YtibalgfejfjndaaGreatDoor
end

/-! Package files: Append to a file that is there. -/
section
set_option linter.unusedVariables false
set_option linter.unusedSimpArgs false
namespace Go.Proofs.YtibalgfejfjndaaGreatDoor
open Go.RowKit

theorem append_end {w w3 : World} {F M : Nat} {l1 l2 : List PF} {p : PF} {clock : Nat} {lim arm : Int} {dn : Bool} {v' : Value} {xs : List UInt8}
    (h : FilesAt w F M (l1 ++ p :: l2) clock lim arm dn) (hg : w.grownBy w3 p.val.ownBlock) (hown : w3.ownsRow 0 5 1 v' (p.b.length + xs.length) (p.b.map bv ++ xs.map bv)) (hat : v'.ownBlock = p.val.ownBlock ∨ v'.ownBlock = some w.heap.size)
    (hl : p.b.length + xs.length ≤ 4194304) :
    Went w F M (l1 ++ p :: l2) (l1 ++ { p with b := p.b ++ xs, val := v' } :: l2) clock lim arm dn (w3.setCell ⟨p.blk, 0, none⟩ v') := by
  have hp := h.at_ p (by simp)
  have hne := own_ne hp.own hp.cell
  have hk3 : Kept (fun k => k ∈ p.blocks) w w3 := (Kept.refl _ w).grown hg fun k e _ => List.mem_cons_of_mem _ (by simp [e])
  have hc3 : w3.heap[p.blk]? = some (.cells #[p.val, .int .i64 p.safe] 89 (0, 0)) := by
    have := ((Kept.refl (fun k => p.val.ownBlock = some k) w).grown hg fun k e _ => e).heap hp.cell (fun e => hne _ e rfl)
    exact this
  have hps := hp.safe
  refine h.one (q := { p with b := p.b ++ xs, val := v' }) ?_ (At.store0 hc3 (by simpa using hown) (by simp; omega) (by simpa using hl)) rfl rfl rfl ?_
  · exact hk3.trans' ((kF w3 p.blk 0 _).mono fun k _ e => by subst e; exact List.mem_cons_self ..)
  · intro k hk
    simp only at hk
    rcases hat with e | e
    · exact .inl (by rw [← e]; exact hk)
    · rw [e] at hk; injection hk with hk; exact .inr (Nat.le_of_eq hk)
/-- Room enough. -/
def Fits (lim : Int) (ps : List PF) (n : Nat) : Prop := n = 0 ∨ (n : Int) + (usedL ps : Int) ≤ lim
theorem used_mid (l1 l2 : List PF) (p : PF) : usedL (l1 ++ p :: l2) = usedL (l1 ++ l2) + p.b.length := by simp [usedL]; omega
theorem frozen_kept {S : Nat → Prop} {w w' : World} (h : Kept S w w') {k : Nat} {cs : Array Value} {t : TypeId} (hc : w.heap[k]? = some (.cells cs t (0, 0))) (hS : ¬ S k) (i : Nat) : w'.frozen? ⟨k, i, none⟩ = false := by
  have := h.heap hc hS
  simp [World.frozen?, this]
theorem Went.pre {w W w' : World} {F M : Nat} {ps ps' : List PF} {c : Nat} {lim arm : Int} {dn : Bool} (hk : Kept (fun _ => False) w W) (h : Went W F M ps ps' c lim arm dn w') : Went w F M ps ps' c lim arm dn w' :=
  ⟨h.at_, (hk.mono fun _ _ h => h.elim).trans' h.kept, fun k hm => (h.feet k hm).imp id fun hm => Nat.le_trans hk.size hm⟩
theorem append_step {W w3 : World} {F M : Nat} {l1 l2 : List PF} {p : PF} {clock n c0 : Nat} {A0 : Option Addr} {lim arm : Int} {dn : Bool} {v' : Value} {xs : List UInt8}
    (h : FilesAt W F M (l1 ++ p :: l2) clock lim arm dn) (hv : p.val = .slice A0 p.b.length c0) (hg : W.grownBy w3 (Value.slice A0 p.b.length c0).ownBlock) (hown : w3.ownsRow 0 5 1 v' (p.b.length + n) (p.b.map bv ++ xs.map bv)) (hn : n = xs.length)
    (hat : v'.ownBlock = (Value.slice A0 p.b.length c0).ownBlock ∨ v'.ownBlock = some W.heap.size) (hl : p.b.length + xs.length ≤ 4194304) :
    (∃ A c, v' = .slice A (p.b.length + n) c) ∧ w3.frozen? ⟨p.blk, 0, none⟩ = false ∧ w3.cell? ⟨p.blk, 0, none⟩ = some (.slice A0 p.b.length c0) ∧
    Went W F M (l1 ++ p :: l2) (l1 ++ { p with b := p.b ++ xs, val := v' } :: l2) clock lim arm dn (w3.setCell ⟨p.blk, 0, none⟩ v') := by
  have hp := h.at_ p (by simp)
  have hne := own_ne hp.own hp.cell
  have hk3 : Kept (fun k => p.val.ownBlock = some k) W w3 := (Kept.refl _ W).grown hg fun k e _ => by rw [hv]; exact e
  refine ⟨?_, frozen_kept hk3 hp.cell (fun e => hne _ e rfl) 0, ?_, append_end h (by rw [hv]; exact hg) (by rw [← hn]; exact hown) (by rw [hv]; exact hat) hl⟩
  · rcases hown.2 with ⟨hv, h0⟩ | ⟨g, cap, cur, hv, _⟩
    · exact ⟨none, 0, by rw [hv, h0]⟩
    · exact ⟨_, _, hv⟩
  · have := hk3.heap hp.cell (fun e => hne _ e rfl)
    simp [World.cell?, this, hv]
def hitE (arm : Int) : Int := if arm = 1 then 13 else 0
set_option maxRecDepth 100000 in
set_option maxHeartbeats 4000000 in
theorem append_old_some (ad : Addr) (n c : Nat) (w : World) (F M : Nat) (lim arm : Int) (l1 l2 : List PF) (p : PF) (clock : Nat) (xs : List UInt8) (hs : p.name.size ≤ 140737488355328) (hf : fullB p.name = true) (h : FilesAt w F M (l1 ++ p :: l2) clock lim arm false)
    (hu : usedL (l1 ++ p :: l2) ≤ 4194304) (hx : Bs w (some ad) xs) (hn : n = xs.length) (hfit : Fits lim (l1 ++ p :: l2) n) :
    Calls Tryz.prog 46 #[.pointer (some ⟨F, 0, none⟩), .string p.name, .slice (some ad) n c] w fun e w' => ∃ v, Gone (hitE arm) w F M (l1 ++ p :: l2) (l1 ++ { p with b := p.b ++ xs, val := v } :: l2) clock lim (decA arm) (decide (arm = 1)) e w' := by
  have HF := Lib.hid h
  have H := Lib.hid (ready_ok w F M lim arm _ clock h)
  have HN := Lib.hid (full_any p.name w hs)
  rw [hf] at HN
  have hl0 := h.lim0
  have HU : Hid (∀ W, Kept (fun _ => False) w W → Calls Tryz.prog 69 #[.pointer (some ⟨F, 0, none⟩)] W fun e w' => e = .returned (.int .i64 (usedL (l1 ++ p :: l2))) ∧ Kept (fun _ => False) W w') :=
    Lib.hid fun W hk => used_any W F M lim arm false _ clock (h.kept hk (by simp)) (by omega)
  obtain ⟨b, hb⟩ : ∃ b, b = decide (arm = 1) := ⟨_, rfl⟩
  have HH : Hid (∀ W ps', FilesAt W F M ps' clock lim arm false → Calls Tryz.prog 41 #[.pointer (some ⟨F, 0, none⟩)] W fun e w' => e = .returned (.bool b) ∧ FB w' F M lim (decA arm) b ∧ Kept (fun k => k = F) W w') := Lib.hid fun W ps' h' => by
    rw [hb]; exact hit_any W F M lim arm h'.fb h'.arm0
  have HE0 : Hid (hitE arm = if b then 13 else 0) := Lib.hid (by rw [hb]; simp [hitE])
  have HC1 : Hid (∀ W, Kept (fun _ => False) w W → W.cell? ⟨F, 1, none⟩ = some (.int .i64 lim)) := Lib.hid fun W hk => FB.c1 (h.kept hk (by simp)).fb
  have hpl : p.b.length ≤ usedL (l1 ++ p :: l2) := by rw [used_mid]; omega
  have hp0 := h.at_ p (by simp)
  obtain ⟨A0, c0, hv, _, _, _, _⟩ := Bs.of_own hp0.own
  have HV := Lib.hid hv
  have HX := Lib.hid hx
  have HNx := Lib.hid hn
  have Hlen : Hid (p.b.length + xs.length ≤ 4194304) := Lib.hid (by rcases hfit with e | e; have := hp0.len; omega; omega)
  have hln : n ≤ 4194304 := by have := Hlen.out; omega
  obtain ⟨i0, hi, hz0, hz1, hz2⟩ := info_parts infoU8
  obtain ⟨u, hud⟩ : ∃ u, u = usedL (l1 ++ p :: l2) := ⟨_, rfl⟩
  unfold Fits at hfit
  rw [← hud] at HU hu hfit
  have hw1 : IntKind.i64.wrap (lim - (u : Int)) = lim - (u : Int) := IntWalk.i64_in _ (by omega)
  have HL : Hid (∀ W, Kept (fun _ => False) w W → (Instr.lookup 42 (.map (some M)) (.string p.name) true).run Tryz.prog W = .ok (.tuple #[.pointer (some ⟨p.blk, 0, none⟩), .bool true]) W) := Lib.hid fun W hk => by
    have := look_some (h.kept hk (by simp)).map (names_ne h.names).1 true
    rwa [if_pos rfl] at this
  rw [← hb]
  clear h hf hs hud hv hx hn hp0 hpl hb
  have Hpart : Hid (n = 0 ∨ (n : Int) + (u : Int) ≤ lim) := Lib.hid hfit
  clear hfit
  cases b
  all_goals (rcases Nat.eq_zero_or_pos n with hz | hz)
  all_goals first
    | subst hz
    | (have hn' : (0 : Int) < (n : Int) := by omega
       have hcmp : ¬ lim - (u : Int) < (n : Int) := by have := Hpart.out; omega)
  all_goals go_enter Tryz.func46, Tryz.ntmps46
  all_goals go_wp2_with (first | (go_at_call 64; refine H.out.mono ?_; rintro e w' ⟨rfl, rfl⟩) | (go_at_call 9; refine HN.out.mono ?_; rintro e w' ⟨rfl, hk⟩; have HK := Lib.hid hk; have hc1 := HC1.out _ hk; clear hk))
  all_goals first
    | (fail_if_success (have := hcmp)
       go_quiet (fail)
       have HKW := Lib.hid (HK.out.drewN nq)
       generalize w'.drewN nq = W at HKW ⊢
       obtain ⟨V, hV⟩ : ∃ V, V = Value.slice (some ad) 0 c := ⟨_, rfl⟩
       rw [← hV]
       have HVx := Lib.hid hV
       clear hV)
    | (go_region_held3 (fun W => W.cell? ⟨F, 1, none⟩ = some (.int .i64 lim)) (first | assumption | simp [*]) (first | (go_at_call 69; refine (HU.out _ HK.out.drew).mono ?_; rintro e W ⟨rfl, hk2⟩; have HKW := Lib.hid (HK.out.drew.trans' hk2); have hc2 := HC1.out _ HKW.out; clear hk2))
       obtain ⟨V, hV⟩ : ∃ V, V = Value.slice (some ad) n c := ⟨_, rfl⟩
       rw [← hV]
       have HVx := Lib.hid hV
       clear hV)
  all_goals
    have HFW := Lib.hid (HF.out.kept HKW.out (by simp))
    have hl := HL.out _ HKW.out
    have h0 := FB.c0 HFW.out.fb
    have hp := HFW.out.at_ p (by simp)
    have hown := hp.own
    have hc := hp.c0
    have hc' := hp.cell
    rw [HV.out] at hown hc
    have HO := Lib.hid hown
    have HXW := Lib.hid (HX.out.kept HKW.out (by simp))
    have HCp := Lib.hid hc'
    clear hp hown hc'
  all_goals go_wp2_with (first | (at_builtin; refine wpList_append_own_at _ rfl _ _ 30 rfl 0 5 i0 (.int .u8 0) 1 1 Tryz.underlying30 hi hz0 hz1 hz2 rfl (by decide) _ p.b.length (p.b.map bv) rfl HO.out ad _ c (xs.map bv) HVx.out (by have := HNx.out; rw [List.length_map]; omega) (HXW.out.2 ad rfl) (bv_one xs) (by have := Hlen.out; have := HNx.out; unfold maxLen; omega) (by have := Hlen.out; have := HNx.out; omega) (Nat.zero_le _) ?_; intro v' w3 hown hgrow hnil hat; obtain ⟨⟨A', c', rfl⟩, gf, gc, hE⟩ := append_step HFW.out HV.out hgrow hown HNx.out hat Hlen.out; have HE := Lib.hid hE; clear hown hgrow hnil hat hE) | (go_at_call 41; refine (HH.out _ _ HE.out.at_).mono ?_; rintro e w5 ⟨rfl, hfb, hk⟩; have HE5 := Lib.hid ((HE.out.trans (HE.out.at_.hitW hfb hk)).pre HKW.out); clear hfb hk))
  all_goals (go_ret; exact ⟨_, ret_int (by rw [HE0.out]; rfl), HE5.out⟩)
end Go.Proofs.YtibalgfejfjndaaGreatDoor
end

/-! Package files: Append: no bytes, new files. -/
section
set_option linter.unusedVariables false
set_option linter.unusedSimpArgs false
namespace Go.Proofs.YtibalgfejfjndaaGreatDoor
open Go.RowKit

theorem append_end_none {W : World} {F M : Nat} {l1 l2 : List PF} {p : PF} {clock c0 : Nat} {A0 : Option Addr} {lim arm : Int} {dn : Bool}
    (h : FilesAt W F M (l1 ++ p :: l2) clock lim arm dn) (hv : p.val = .slice A0 p.b.length c0) :
    Went W F M (l1 ++ p :: l2) (l1 ++ { p with b := p.b ++ [], val := .slice A0 p.b.length c0 } :: l2) clock lim arm dn (W.setCell ⟨p.blk, 0, none⟩ (.slice A0 p.b.length c0)) := by
  have hp := h.at_ p (by simp)
  have := append_end h (w3 := W) (v' := p.val) (xs := []) ⟨rfl, rfl, rfl, Nat.le_refl _, fun _ _ _ => rfl⟩ (by simpa using hp.own) (.inl rfl) (by simpa using hp.len)
  rw [hv] at this
  exact this
set_option maxRecDepth 100000 in
set_option maxHeartbeats 4000000 in
theorem append_old_none (w : World) (F M : Nat) (lim arm : Int) (l1 l2 : List PF) (p : PF) (clock : Nat) (hs : p.name.size ≤ 140737488355328) (hf : fullB p.name = true) (h : FilesAt w F M (l1 ++ p :: l2) clock lim arm false)
    (hu : usedL (l1 ++ p :: l2) ≤ 4194304) :
    Calls Tryz.prog 46 #[.pointer (some ⟨F, 0, none⟩), .string p.name, .slice none 0 0] w fun e w' => ∃ v, Gone (hitE arm) w F M (l1 ++ p :: l2) (l1 ++ { p with b := p.b ++ [], val := v } :: l2) clock lim (decA arm) (decide (arm = 1)) e w' := by
  have HF := Lib.hid h
  have H := Lib.hid (ready_ok w F M lim arm _ clock h)
  have HN := Lib.hid (full_any p.name w hs)
  rw [hf] at HN
  have hl0 := h.lim0
  have HU : Hid (∀ W, Kept (fun _ => False) w W → Calls Tryz.prog 69 #[.pointer (some ⟨F, 0, none⟩)] W fun e w' => e = .returned (.int .i64 (usedL (l1 ++ p :: l2))) ∧ Kept (fun _ => False) W w') :=
    Lib.hid fun W hk => used_any W F M lim arm false _ clock (h.kept hk (by simp)) (by omega)
  obtain ⟨b, hb⟩ : ∃ b, b = decide (arm = 1) := ⟨_, rfl⟩
  have HH : Hid (∀ W ps', FilesAt W F M ps' clock lim arm false → Calls Tryz.prog 41 #[.pointer (some ⟨F, 0, none⟩)] W fun e w' => e = .returned (.bool b) ∧ FB w' F M lim (decA arm) b ∧ Kept (fun k => k = F) W w') := Lib.hid fun W ps' h' => by
    rw [hb]; exact hit_any W F M lim arm h'.fb h'.arm0
  have HE0 : Hid (hitE arm = if b then 13 else 0) := Lib.hid (by rw [hb]; simp [hitE])
  have HC1 : Hid (∀ W, Kept (fun _ => False) w W → W.cell? ⟨F, 1, none⟩ = some (.int .i64 lim)) := Lib.hid fun W hk => FB.c1 (h.kept hk (by simp)).fb
  have hpl : p.b.length ≤ usedL (l1 ++ p :: l2) := by rw [used_mid]; omega
  have hp0 := h.at_ p (by simp)
  obtain ⟨A0, c0, hv, _, _, _, _⟩ := Bs.of_own hp0.own
  have HV := Lib.hid hv
  have Hlen : Hid (p.b.length + ([] : List UInt8).length ≤ 4194304) := Lib.hid (by have := hp0.len; simpa using this)
  obtain ⟨i0, hi, hz0, hz1, hz2⟩ := info_parts infoU8
  obtain ⟨u, hud⟩ : ∃ u, u = usedL (l1 ++ p :: l2) := ⟨_, rfl⟩
  rw [← hud] at HU hu
  have hw1 : IntKind.i64.wrap (lim - (u : Int)) = lim - (u : Int) := IntWalk.i64_in _ (by omega)
  have HL : Hid (∀ W, Kept (fun _ => False) w W → (Instr.lookup 42 (.map (some M)) (.string p.name) true).run Tryz.prog W = .ok (.tuple #[.pointer (some ⟨p.blk, 0, none⟩), .bool true]) W) := Lib.hid fun W hk => by
    have := look_some (h.kept hk (by simp)).map (names_ne h.names).1 true
    rwa [if_pos rfl] at this
  rw [← hb]
  clear h hf hs hud hv hp0 hpl hb
  cases b
  all_goals go_enter Tryz.func46, Tryz.ntmps46
  all_goals go_wp2_with (first | (go_at_call 64; refine H.out.mono ?_; rintro e w' ⟨rfl, rfl⟩) | (go_at_call 9; refine HN.out.mono ?_; rintro e w' ⟨rfl, hk⟩; have HK := Lib.hid hk; have hc1 := HC1.out _ hk; clear hk))
  all_goals
    go_quiet (fail)
    have HKW := Lib.hid (HK.out.drewN nq)
    generalize w'.drewN nq = W at HKW ⊢
    obtain ⟨V, hV⟩ : ∃ V, V = Value.slice none 0 0 := ⟨_, rfl⟩
    rw [← hV]
    have HVx := Lib.hid hV
    clear hV
  all_goals
    have HFW := Lib.hid (HF.out.kept HKW.out (by simp))
    have hl := HL.out _ HKW.out
    have h0 := FB.c0 HFW.out.fb
    have hp := HFW.out.at_ p (by simp)
    have hown := hp.own
    have hc := hp.c0
    have hc' := hp.cell
    rw [HV.out] at hown hc
    have HO := Lib.hid hown
    have gf := (HFW.out.at_ p (by simp)).fz 0
    have HCp := Lib.hid hc'
    clear hp hown hc'
  all_goals go_wp2_with (first | (at_builtin; refine wpList_append_own_none rfl _ _ 30 rfl 0 5 i0 1 Tryz.underlying30 hi _ p.b.length (p.b.map bv) rfl HO.out HVx.out ?_; have HE := Lib.hid (append_end_none HFW.out HV.out)) | (go_at_call 41; refine (HH.out _ _ HE.out.at_).mono ?_; rintro e w5 ⟨rfl, hfb, hk⟩; have HE5 := Lib.hid ((HE.out.trans (HE.out.at_.hitW hfb hk)).pre HKW.out); clear hfb hk))
  all_goals (go_ret; exact ⟨_, ret_int (by rw [HE0.out]; rfl), HE5.out⟩)
end Go.Proofs.YtibalgfejfjndaaGreatDoor
end
