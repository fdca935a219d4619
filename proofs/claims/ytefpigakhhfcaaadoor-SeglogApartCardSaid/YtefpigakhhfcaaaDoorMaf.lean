import Derived.Test.YtefpigakhhfcaaaDoorMae
import Derived.Deep.RegionWith
import Derived.Deep.RegionHeld3
/-! Package files: New, Clone of bytes, Append, Sync, Truncate, Rename, Remove, Read. -/
section
set_option linter.unusedVariables false
set_option linter.unusedSimpArgs false
namespace Go.Proofs.YtefpigakhhfcaaaDoor
open Go.RowKit

theorem infoU8 : (Tryd.prog.info? 5).map (fun i => (i.zero, i.size, i.bytes)) = some (some (.int .u8 0), 1, 1) := by kernel_rfl
theorem build0 (w : World) : (Instr.buildSlice 31 0 #[]).run Tryd.prog w = .ok (.slice (some ⟨w.heap.size, 0, none⟩) 0 0) (w.alloc (.cells #[] 5)) := by kernel_rfl

def ClonePost (w : World) (xs : List UInt8) (e : Ending) (w' : World) : Prop :=
  ∃ v, e = .returned v ∧ w'.ownsRow w.heap.size 5 1 v xs.length (xs.map bv) ∧ Kept (fun _ => False) w w'
set_option maxRecDepth 100000 in
set_option maxHeartbeats 1000000 in
theorem clone_nil (w : World) : Calls Tryd.prog 35 #[.slice none 0 0] w (ClonePost w []) := by
  have hne : (binOp .eql 31 (.slice none 0 0) (.slice none 0 0)).run Tryd.prog w = .ok (.bool true) w := by kernel_rfl
  go_enter Tryd.func35, Tryd.ntmps35
  go_wp2
  go_ret
  exact ⟨_, rfl, World.ownsRow_nil _ _ _ _, Kept.refl _ _⟩
set_option maxHeartbeats 1000000 in
theorem clone_some (w : World) (a : Addr) (n c : Nat) (xs : List UInt8) (hn : Hid (n = xs.length)) (hl : n ≤ 1000000000) (h : Bs w (some a) xs) : Calls Tryd.prog 35 #[.slice (some a) n c] w (ClonePost w xs) := by
  obtain ⟨i0, hi, hz0, hz1, hz2⟩ := info_parts infoU8
  have H := Lib.hid h
  have hb := build0 w
  have hown : (w.alloc (.cells #[] 5)).ownsRow w.heap.size 5 1 (.slice (some ⟨w.heap.size, 0, none⟩) 0 0) 0 [] :=
    ⟨by simp, .inr ⟨w.heap.size, 0, #[], rfl, Nat.le_refl _, heap_alloc_new w _, Nat.le_refl _, by simp, by simp, by simp⟩⟩
  have HO := Lib.hid hown
  have hkp : Kept (fun _ => False) w (w.alloc (.cells #[] 5)) := (Kept.refl _ w).alloc _
  have HK := Lib.hid hkp
  have hne : (binOp .eql 31 (.slice (some a) n c) (.slice none 0 0)).run Tryd.prog w = .ok (.bool false) w := by
    kernel_rfl
  clear h hown hkp
  go_enter Tryd.func35, Tryd.ntmps35
  go_wp2_with (at_builtin; refine wpList_append_own _ rfl _ _ 31 rfl w.heap.size 5 i0 (.int .u8 0) 1 1 Tryd.underlying31 hi hz0 hz1 hz2 rfl (by decide) _ 0 [] rfl HO.out a n c (xs.map bv) rfl ?c1 ?c2 ?c3 ?c4 ?c5 ?c6 ?_; rotate_right; intro v' w1 hown hgrow hnil)
  case c1 => simp [hn.out]
  case c2 => exact (H.out.kept HK.out (by simp)).2 a rfl
  case c3 => exact bv_one xs
  case c4 => unfold maxLen; omega
  case c5 => omega
  case c6 => simp
  simp only [Nat.zero_add, List.nil_append] at hown
  rw [hn.out] at hown
  go_ret
  exact ⟨v', rfl, hown, HK.out.grown hgrow (fun k e hk => by
    have : w.heap.size = k := by simpa [Value.ownBlock, Act.eval] using e
    omega)⟩
theorem clone_any (w : World) (A : Option Addr) (n c : Nat) (xs : List UInt8) (hn : n = xs.length) (hl : n ≤ 1000000000) (h : Bs w A xs) (hA : A = none → c = 0) : Calls Tryd.prog 35 #[.slice A n c] w (ClonePost w xs) := by
  cases A with
  | none =>
    have h1 := h.1 rfl
    have h2 := hA rfl
    subst h1; subst h2
    simp only [List.length_nil] at hn
    subst hn
    exact clone_nil w
  | some a => exact clone_some w a n c xs hn hl h

/-! ### New -/
def NewPost (w : World) (n : Int) (e : Ending) (w' : World) : Prop :=
  ∃ F M, e = .returned (.pointer (some ⟨F, 0, none⟩)) ∧ FilesAt w' F M [] 0 (boundI n) 0 false ∧ Kept (fun _ => False) w w' ∧ w.heap.size ≤ F ∧ w.heap.size ≤ M
set_option maxHeartbeats 1000000 in
theorem new_any (w : World) (n : Int) : Calls Tryd.prog 8 #[.int .i64 n] w (NewPost w n) := by
  have hmm := @run_makeMap Tryd.prog
  have Hr := Lib.hid (boundI_r n)
  obtain ⟨b, hb⟩ : ∃ b, b = boundI n := ⟨_, rfl⟩
  have HB := Lib.hid (bound_any n (w.alloc (.map #[] 0)))
  rw [← hb] at HB Hr
  have hbu : (Instr.build 77 #[(0, .map (some w.heap.size)), (1, .int .i64 b)]).run Tryd.prog (w.alloc (.map #[] 0)) = .ok (.agg #[.map (some w.heap.size), .int .i64 b, .int .i64 0, .bool false]) (w.alloc (.map #[] 0)) := by kernel_rfl
  have Hb := Lib.hid hb
  clear hb
  go_enter Tryd.func8, Tryd.ntmps8
  go_wp2_with (go_at_call 29; refine HB.out.mono ?_; rintro e w' ⟨rfl, rfl⟩)
  go_ret
  refine ⟨w.heap.size + 1, w.heap.size, rfl, ⟨?_, ?_, by simp, by simp, by simp, by simp, ?_, ?_, by omega⟩, ((Kept.refl _ w).alloc _).alloc _, by omega, Nat.le_refl _⟩
  · rw [← Hb.out]
    have := heap_alloc_new (w.alloc (.map #[] 0)) (.cells #[.map (some w.heap.size), .int .i64 b, .int .i64 0, .bool false] 77)
    rw [World.size_alloc] at this
    exact this
  · rw [Below.heap_alloc _ _ _ (by rw [World.size_alloc]; omega)]
    exact heap_alloc_new w _
  · simp [foot]
  · rw [← Hb.out]; exact Hr.out

/-! ### Read -/
def ReadPost (w : World) (F M : Nat) (xs : List UInt8) (er : Int) (e : Ending) (w' : World) : Prop :=
  ∃ v, e = .returned (.tuple #[v, .int .i64 er]) ∧ w'.ownsRow w.heap.size 5 1 v xs.length (xs.map bv) ∧ Kept (fun _ => False) w w'
theorem read_nil (s : ByteArray) (w : World) : Calls Tryd.prog 25 #[.pointer none, .string s] w (ReadPost w 0 0 [] 2) := by
  go_enter Tryd.func25, Tryd.ntmps25
  go_wp2_with (go_at_call 48; refine (there_nil _ _).mono ?_; rintro e w' ⟨rfl, rfl⟩)
  go_ret2
  exact ⟨_, rfl, World.ownsRow_nil _ _ _ _, Kept.refl _ _⟩
theorem read_down (s : ByteArray) (w : World) (F M : Nat) (lim arm : Int) (h : FB w F M lim arm true) : Calls Tryd.prog 25 #[.pointer (some ⟨F, 0, none⟩), .string s] w (ReadPost w F M [] 13) := by
  have H := Lib.hid (there_down s w F M lim arm h)
  clear h
  go_enter Tryd.func25, Tryd.ntmps25
  go_wp2_with (go_at_call 48; refine H.out.mono ?_; rintro e w' ⟨rfl, rfl⟩)
  go_ret2
  exact ⟨_, rfl, World.ownsRow_nil _ _ _ _, Kept.refl _ _⟩
theorem read_none (s : ByteArray) (w : World) (F M : Nat) (lim arm : Int) (ps : List PF) (clock : Nat) (h : FilesAt w F M ps clock lim arm false) (hn : ∀ p ∈ ps, p.name ≠ s) :
    Calls Tryd.prog 25 #[.pointer (some ⟨F, 0, none⟩), .string s] w (ReadPost w F M [] 8) := by
  have H := Lib.hid (there_none s w F M lim arm ps clock h hn)
  clear h hn
  go_enter Tryd.func25, Tryd.ntmps25
  go_wp2_with (go_at_call 48; refine H.out.mono ?_; rintro e w' ⟨rfl, rfl⟩)
  go_ret2
  exact ⟨_, rfl, World.ownsRow_nil _ _ _ _, Kept.refl _ _⟩
theorem PF.At.c0 {w : World} {p : PF} (h : p.At w) : w.cell? ⟨p.blk, 0, none⟩ = some p.val := by simp [World.cell?, h.cell]
theorem PF.At.c1 {w : World} {p : PF} (h : p.At w) : w.cell? ⟨p.blk, 1, none⟩ = some (.int .i64 p.safe) := by simp [World.cell?, h.cell]
theorem PF.At.fz {w : World} {p : PF} (h : p.At w) (i : Nat) : w.frozen? ⟨p.blk, i, none⟩ = false := by simp [World.frozen?, h.cell]
theorem read_some (w : World) (F M : Nat) (lim arm : Int) (l1 l2 : List PF) (p : PF) (clock : Nat) (h : FilesAt w F M (l1 ++ p :: l2) clock lim arm false) :
    Calls Tryd.prog 25 #[.pointer (some ⟨F, 0, none⟩), .string p.name] w (ReadPost w F M p.b 0) := by
  have H := Lib.hid (there_some w F M lim arm l1 l2 p clock h)
  have hp := h.at_ p (by simp)
  obtain ⟨A, c, hv, hlen, hbs, hA, _⟩ := Bs.of_own hp.own
  have hc := hp.c0
  rw [hv] at hc
  have HC := Lib.hid (clone_any w A p.b.length c p.b rfl (by have := hp.len; omega) hbs hA)
  clear h hp hv hlen hbs hA
  go_enter Tryd.func25, Tryd.ntmps25
  go_wp2_with (first | (go_at_call 48; refine H.out.mono ?_; rintro e w' ⟨rfl, rfl⟩) | (go_at_call 35; refine HC.out.mono ?_; rintro e w' ⟨v, rfl, hown, hk⟩))
  go_ret2
  exact ⟨v, rfl, hown, hk⟩
end Go.Proofs.YtefpigakhhfcaaaDoor
end

/-! Package files: Sync, Truncate, Rename, Remove. -/
section
set_option linter.unusedVariables false
set_option linter.unusedSimpArgs false
namespace Go.Proofs.YtefpigakhhfcaaaDoor
open Go.RowKit

/-- 'there' says no. -/
def No (pv : Value) (s : ByteArray) (er : Int) (w : World) : Prop :=
  Calls Tryd.prog 48 #[pv, .string s] w fun e w' => e = .returned (.tuple #[.pointer none, .int .i64 er]) ∧ w = w'
def Ret (er : Int) (w : World) (e : Ending) (w' : World) : Prop := e = .returned (.int .i64 er) ∧ w = w'
structure Went (w : World) (F M : Nat) (ps ps' : List PF) (clock : Nat) (lim arm : Int) (dn : Bool) (w' : World) : Prop where
  at_ : FilesAt w' F M ps' clock lim arm dn
  kept : Kept (fun k => k ∈ foot F M ps) w w'
  feet : ∀ k ∈ foot F M ps', k ∈ foot F M ps ∨ w.heap.size ≤ k
def Gone (er : Int) (w : World) (F M : Nat) (ps ps' : List PF) (clock : Nat) (lim arm : Int) (dn : Bool) (e : Ending) (w' : World) : Prop :=
  e = .returned (.int .i64 er) ∧ Went w F M ps ps' clock lim arm dn w'
theorem Kept.ofF {w w' : World} {F M : Nat} {ps : List PF} (h : Kept (fun k => k = F) w w') : Kept (fun k => k ∈ foot F M ps) w w' := h.mono fun k _ e => by subst e; simp [foot]
theorem FilesAt.hit {w w' : World} {F M : Nat} {ps : List PF} {clock : Nat} {lim arm : Int} {dn : Bool} (h : FilesAt w F M ps clock lim arm dn) {b : Bool} (hb : FB w' F M lim (decA arm) b) (hk : Kept (fun k => k = F) w w') : FilesAt w' F M ps clock lim (decA arm) b :=
  h.own hk hb h.lim0 (decA_r h.arm0)
theorem FilesAt.hitW {w w' : World} {F M : Nat} {ps : List PF} {clock : Nat} {lim arm : Int} {dn : Bool} (h : FilesAt w F M ps clock lim arm dn) {b : Bool} (hb : FB w' F M lim (decA arm) b) (hk : Kept (fun k => k = F) w w') : Went w F M ps ps clock lim (decA arm) b w' :=
  ⟨h.hit hb hk, hk.ofF, fun k hk => .inl hk⟩
set_option maxHeartbeats 1000000 in
theorem sync_no (pv : Value) (s : ByteArray) (er : Int) (her : (er == 0) = false) (w : World) (h : Hid (No pv s er w)) : Calls Tryd.prog 42 #[pv, .string s] w (Ret er w) := by
  go_enter Tryd.func42, Tryd.ntmps42
  go_wp2_with (go_at_call 48; refine h.out.mono ?_; rintro e w' ⟨rfl, rfl⟩)
  go_ret
  exact ⟨rfl, rfl⟩
set_option maxHeartbeats 1000000 in
theorem trunc_no (pv : Value) (s : ByteArray) (n : Int) (er : Int) (her : (er == 0) = false) (w : World) (h : Hid (No pv s er w)) : Calls Tryd.prog 28 #[pv, .string s, .int .i64 n] w (Ret er w) := by
  go_enter Tryd.func28, Tryd.ntmps28
  go_wp2_with (go_at_call 48; refine h.out.mono ?_; rintro e w' ⟨rfl, rfl⟩)
  go_ret
  exact ⟨rfl, rfl⟩
set_option maxHeartbeats 1000000 in
theorem remove_no (pv : Value) (s : ByteArray) (er : Int) (her : (er == 0) = false) (w : World) (h : Hid (No pv s er w)) : Calls Tryd.prog 27 #[pv, .string s] w (Ret er w) := by
  go_enter Tryd.func27, Tryd.ntmps27
  go_wp2_with (go_at_call 48; refine h.out.mono ?_; rintro e w' ⟨rfl, rfl⟩)
  go_ret
  exact ⟨rfl, rfl⟩

/-! ### Sync -/
set_option maxHeartbeats 1000000 in
theorem sync_hit (w : World) (F M : Nat) (lim : Int) (l1 l2 : List PF) (p : PF) (clock : Nat) (h : FilesAt w F M (l1 ++ p :: l2) clock lim 1 false) :
    Calls Tryd.prog 42 #[.pointer (some ⟨F, 0, none⟩), .string p.name] w (Gone 13 w F M (l1 ++ p :: l2) (l1 ++ p :: l2) clock lim (decA 1) true) := by
  have HF := Lib.hid h
  have H := Lib.hid (there_some w F M lim 1 l1 l2 p clock h)
  have HH := Lib.hid (hit_any w F M lim 1 h.fb (by omega))
  clear h
  go_enter Tryd.func42, Tryd.ntmps42
  go_wp2_with (first | (go_at_call 48; refine H.out.mono ?_; rintro e w' ⟨rfl, rfl⟩) | (go_at_call 50; refine HH.out.mono ?_; rintro e w' ⟨rfl, hfb, hk⟩; simp only [decide_true] at hfb ⊢))
  go_ret
  exact ⟨rfl, HF.out.hitW hfb hk⟩
/-- One file's blocks turn, those of others stay. -/
theorem FilesAt.one {w w' : World} {F M : Nat} {l1 l2 : List PF} {p q : PF} {clock : Nat} {lim arm : Int} {dn : Bool} (h : FilesAt w F M (l1 ++ p :: l2) clock lim arm dn) (hk : Kept (fun k => k ∈ p.blocks) w w') (hq : q.At w')
    (hn : q.name = p.name) (hb : q.born = p.born) (hblk : q.blk = p.blk) (hv : ∀ k, q.val.ownBlock = some k → p.val.ownBlock = some k ∨ w.heap.size ≤ k) : Went w F M (l1 ++ p :: l2) (l1 ++ q :: l2) clock lim arm dn w' :=
  ⟨h.replace hk hq hn hb hblk hv, hk.mono fun k _ hk => mem_foot (p := p) (by simp) hk, fun k hk => by
    have hqb : k ∈ q.blocks → k ∈ foot F M (l1 ++ p :: l2) ∨ w.heap.size ≤ k := by
      intro hk
      rcases List.mem_cons.1 hk with rfl | hk
      · exact .inl (by rw [hblk]; exact mem_foot (p := p) (by simp) (List.mem_cons_self ..))
      · rcases hv k (by simpa using hk) with h' | h'
        · exact .inl (mem_foot (p := p) (by simp) (List.mem_cons_of_mem _ (by simp [h'])))
        · exact .inr h'
    simp only [foot, List.flatMap_append, List.flatMap_cons, List.mem_cons, List.mem_append] at hk hqb ⊢
    rcases hk with hk | hk | hk | hk | hk
    · simp [hk]
    · simp [hk]
    · simp [hk]
    · exact hqb hk
    · simp [hk]⟩
theorem Went.trans {w w1 w2 : World} {F M : Nat} {p1 p2 p3 : List PF} {c1 c2 : Nat} {l1 l2 a1 a2 : Int} {d1 d2 : Bool} (h : Went w F M p1 p2 c1 l1 a1 d1 w1) (k : Went w1 F M p2 p3 c2 l2 a2 d2 w2) : Went w F M p1 p3 c2 l2 a2 d2 w2 :=
  ⟨k.at_, h.kept.trans k.kept fun i hi hm => (h.feet i hm).resolve_right (by omega), fun i hm => (k.feet i hm).elim (fun hm => h.feet i hm) fun hm => .inr (Nat.le_trans h.kept.size hm)⟩
theorem PF.At.safeTo {w : World} {p : PF} (h : p.At w) {n : Nat} (hn : n ≤ p.b.length) : ({ p with safe := n } : PF).At (w.setCell ⟨p.blk, 1, none⟩ (.int .i64 n)) := by
  have hne : p.val.ownBlock ≠ some p.blk → Kept (fun k => k = p.blk) w (w.setCell ⟨p.blk, 1, none⟩ (.int .i64 n)) := fun _ => kF _ _ _ _
  refine ⟨?_, ?_, hn, h.len⟩
  · unfold World.setCell; simp only [Array.getElem?_modify, if_true, h.cell]; rfl
  · by_cases hb : p.val.ownBlock = some p.blk
    · rcases h.own.2 with ⟨hv, _⟩ | ⟨g, cap, cur, hv, _, hh, _⟩
      · rw [hv] at hb; cases hb
      · have hg : g = p.blk := by rw [hv] at hb; simpa [Value.ownBlock] using hb
        subst hg
        have := h.cell
        rw [hh] at this
        injection this with this
        injection this with _ this
        exact absurd this (by decide)
    · exact own_kept h.own (hne hb) fun k e e2 => hb (by rw [e, e2])
set_option maxHeartbeats 1000000 in
theorem sync_ok (w : World) (F M : Nat) (lim arm : Int) (l1 l2 : List PF) (p : PF) (clock : Nat) (ha : arm ≠ 1) (h : FilesAt w F M (l1 ++ p :: l2) clock lim arm false) :
    Calls Tryd.prog 42 #[.pointer (some ⟨F, 0, none⟩), .string p.name] w (Gone 0 w F M (l1 ++ p :: l2) (l1 ++ { p with safe := p.b.length } :: l2) clock lim (decA arm) false) := by
  have HF := Lib.hid h
  have H := Lib.hid (there_some w F M lim arm l1 l2 p clock h)
  have HH := Lib.hid (hit_any w F M lim arm h.fb h.arm0)
  have Hd := Lib.hid (show decide (arm = 1) = false by simp [ha])
  clear h ha
  go_enter Tryd.func42, Tryd.ntmps42
  go_wp2_with (first | (go_at_call 48; refine H.out.mono ?_; rintro e w' ⟨rfl, rfl⟩) | (go_at_call 50; refine HH.out.mono ?_; rintro e w' ⟨rfl, hfb, hk⟩; rw [Hd.out] at hfb ⊢; have HW := Lib.hid (HF.out.hitW hfb hk); have hp := HW.out.at_.at_ p (by simp); obtain ⟨A, c, hv, hlen, hbs, hA, _⟩ := Bs.of_own hp.own; have hc := hp.c0; rw [hv] at hc; have HP := Lib.hid hp; have f1 := hp.fz 1; have h1 := hp.c1; have hl := hp.len; clear hp hfb hk hv hbs hA))
  go_ret
  exact ⟨rfl, HW.out.trans (HW.out.at_.one (q := { p with safe := p.b.length }) ((kF _ _ _ _).mono fun k _ e => by subst e; exact List.mem_cons_self ..) (HP.out.safeTo (Nat.le_refl _)) rfl rfl rfl fun k e => .inl e)⟩
end Go.Proofs.YtefpigakhhfcaaaDoor
end

/-! Package files: Truncate. -/
section
set_option linter.unusedVariables false
set_option linter.unusedSimpArgs false
namespace Go.Proofs.YtefpigakhhfcaaaDoor
open Go.RowKit

set_option maxHeartbeats 1000000 in
theorem trunc_neg (w : World) (F M : Nat) (lim arm : Int) (l1 l2 : List PF) (p : PF) (clock : Nat) (n : Int) (hn : n < 0) (h : FilesAt w F M (l1 ++ p :: l2) clock lim arm false) :
    Calls Tryd.prog 28 #[.pointer (some ⟨F, 0, none⟩), .string p.name, .int .i64 n] w (Ret 1 w) := by
  have H := Lib.hid (there_some w F M lim arm l1 l2 p clock h)
  clear h
  go_enter Tryd.func28, Tryd.ntmps28
  go_wp2_with (go_at_call 48; refine H.out.mono ?_; rintro e w' ⟨rfl, rfl⟩)
  go_ret
  exact ⟨rfl, rfl⟩
set_option maxHeartbeats 1000000 in
theorem trunc_far (w : World) (F M : Nat) (lim arm : Int) (l1 l2 : List PF) (p : PF) (clock : Nat) (n : Nat) (hn : p.b.length < n) (h : FilesAt w F M (l1 ++ p :: l2) clock lim arm false) :
    Calls Tryd.prog 28 #[.pointer (some ⟨F, 0, none⟩), .string p.name, .int .i64 n] w (Ret 1 w) := by
  have H := Lib.hid (there_some w F M lim arm l1 l2 p clock h)
  have hp := h.at_ p (by simp)
  obtain ⟨A, c, hv, hlen, hbs, hA, _⟩ := Bs.of_own hp.own
  have hc := hp.c0
  rw [hv] at hc
  have hpl := hp.len
  clear h hp hbs hv hA
  go_enter Tryd.func28, Tryd.ntmps28
  go_wp2_with (go_at_call 48; refine H.out.mono ?_; rintro e w' ⟨rfl, rfl⟩)
  go_ret
  exact ⟨rfl, rfl⟩
set_option maxHeartbeats 1000000 in
theorem trunc_hit (w : World) (F M : Nat) (lim : Int) (l1 l2 : List PF) (p : PF) (clock : Nat) (n : Nat) (hn : n ≤ p.b.length) (h : FilesAt w F M (l1 ++ p :: l2) clock lim 1 false) :
    Calls Tryd.prog 28 #[.pointer (some ⟨F, 0, none⟩), .string p.name, .int .i64 n] w (Gone 13 w F M (l1 ++ p :: l2) (l1 ++ p :: l2) clock lim (decA 1) true) := by
  have HF := Lib.hid h
  have H := Lib.hid (there_some w F M lim 1 l1 l2 p clock h)
  have HH := Lib.hid (hit_any w F M lim 1 h.fb (by omega))
  have hp := h.at_ p (by simp)
  obtain ⟨A, c, hv, hlen, hbs, hA, _⟩ := Bs.of_own hp.own
  have hc := hp.c0
  rw [hv] at hc
  have hpl := hp.len
  clear h hp hbs hv hA
  go_enter Tryd.func28, Tryd.ntmps28
  go_wp2_with (first | (go_at_call 48; refine H.out.mono ?_; rintro e w' ⟨rfl, rfl⟩) | (go_at_call 50; refine HH.out.mono ?_; rintro e w' ⟨rfl, hfb, hk⟩; simp only [decide_true] at hfb ⊢))
  go_ret
  exact ⟨rfl, HF.out.hitW hfb hk⟩
/-- A file is stored anew. -/
theorem own_ne {w : World} {base n : Nat} {v v0 s0 : Value} {xs : List Value} {blk : Nat} (hown : w.ownsRow base 5 1 v n xs) (hc : w.heap[blk]? = some (.cells #[v0, s0] 100 (0, 0))) : ∀ k, v.ownBlock = some k → k ≠ blk := by
  intro k hk e
  subst e
  rcases hown.2 with ⟨hv, _⟩ | ⟨g, cap, cur, hv, _, hh, _⟩
  · rw [hv] at hk; cases hk
  · have hg : g = k := by rw [hv] at hk; simpa [Value.ownBlock] using hk
    subst hg
    rw [hh] at hc
    injection hc with hc
    injection hc with _ hc
    exact absurd hc (by decide)
theorem own_base {w : World} {base : Nat} {e : TypeId} {size n : Nat} {v : Value} {xs : List Value} (h : w.ownsRow base e size v n xs) : w.ownsRow 0 e size v n xs := by
  refine ⟨h.1, ?_⟩
  rcases h.2 with h' | ⟨g, cap, cur, hv, _, r⟩
  · exact .inl h'
  · exact .inr ⟨g, cap, cur, hv, Nat.zero_le _, r⟩
theorem At.store0 {w : World} {blk : Nat} {v0 v : Value} {s born : Nat} {name : ByteArray} {xs : List UInt8} (hc : w.heap[blk]? = some (.cells #[v0, .int .i64 s] 100 (0, 0))) (hown : w.ownsRow 0 5 1 v xs.length (xs.map bv))
    (hs : s ≤ xs.length) (hl : xs.length ≤ 4194304) : (PF.mk name xs s blk v born).At (w.setCell ⟨blk, 0, none⟩ v) := by
  refine ⟨?_, own_kept hown (kF w blk 0 v) (own_ne hown hc), hs, hl⟩
  unfold World.setCell; simp only [Array.getElem?_modify, if_true, hc]; rfl
theorem At.store {w : World} {blk : Nat} {v0 v s0 : Value} {s born : Nat} {name : ByteArray} {xs : List UInt8} (hc : w.heap[blk]? = some (.cells #[v0, s0] 100 (0, 0))) (hown : w.ownsRow 0 5 1 v xs.length (xs.map bv))
    (hs : s ≤ xs.length) (hl : xs.length ≤ 4194304) : (PF.mk name xs s blk v born).At ((w.setCell ⟨blk, 0, none⟩ v).setCell ⟨blk, 1, none⟩ (.int .i64 s)) := by
  refine ⟨?_, own_kept (own_kept hown (kF w blk 0 v) (own_ne hown hc)) (kF _ blk 1 _) (own_ne hown hc), hs, hl⟩
  unfold World.setCell; simp only [Array.getElem?_modify, if_true, hc]; rfl
theorem own_cap {w : World} {base n n' c : Nat} {e : TypeId} {A : Option Addr} {xs : List Value} (h : w.ownsRow base e 1 (.slice A n c) n' xs) : n ≤ c ∧ (A.map (·.add 0)) = A := by
  rcases h.2 with ⟨hv, _⟩ | ⟨g, cap, cur, hv, _, _, hc, _⟩
  · injection hv with e1 e2 e3; subst e1; subst e2; subst e3; exact ⟨Nat.le_refl _, rfl⟩
  · injection hv with e1 e2 e3; subst e1; subst e2; subst e3; exact ⟨hc, rfl⟩
theorem slice_run (W : World) (A : Option Addr) (l n c : Nat) (hA : (A.map (·.add 0)) = A) (hn : n ≤ c) : (Instr.slice 31 (.slice A l c) none (some (.int .i64 n)) none).run Tryd.prog W = .ok (.slice A n c) W := by
  have hsz : ∀ W, (sizeOf 5).run Tryd.prog W = .ok 1 W := fun W => by kernel_rfl
  have h1 : (0 : Int) ≤ (n : Int) ∧ (n : Int) ≤ (c : Int) := by omega
  simp only [Instr.slice, Sem.run_bind, run_underlying Tryd.underlying31, Result.andThen, Instr.sliceBounds, Instr.sliceBound, asIntOf, Sem.run_pure, if_pos h1, hsz, Int.toNat_natCast, Nat.zero_mul, Nat.sub_zero]
  split
  · rfl
  · rw [hA]

theorem trunc_end {w w' w2 : World} {F M : Nat} {l1 l2 : List PF} {p : PF} {clock n : Nat} {lim arm : Int} {dn : Bool} {A2 : Option Addr} {c2 : Nat}
    (HW : Went w F M (l1 ++ p :: l2) (l1 ++ p :: l2) clock lim arm dn w') (HK2 : Kept (fun _ => False) w'.drew w2) (HP2 : PF.At w2 p) (hn : n ≤ p.b.length) (m : Int) (hm : m = ((min p.safe n : Nat) : Int))
    (HO2 : w2.ownsRow w'.drew.heap.size 5 1 (.slice A2 (p.b.take n).length c2) (p.b.take n).length ((p.b.take n).map bv)) :
    Went w F M (l1 ++ p :: l2) (l1 ++ { p with b := p.b.take n, safe := min p.safe n, val := .slice A2 n c2 } :: l2) clock lim arm dn ((w2.setCell ⟨p.blk, 0, none⟩ (.slice A2 n c2)).setCell ⟨p.blk, 1, none⟩ (.int .i64 m)) := by
  have hlt : (p.b.take n).length = n := by simp; omega
  have hob : ∀ k, (Value.slice A2 n c2).ownBlock = some k → w'.heap.size ≤ k := by
    intro k hk
    rcases HO2.2 with ⟨hv, _⟩ | ⟨g, cap, cur, hv, hb, _⟩
    · injection hv with e1; subst e1; cases hk
    · injection hv with e1; subst e1
      have : g = k := by simpa [Value.ownBlock] using hk
      subst this; exact hb
  have hO := own_base HO2
  rw [hlt] at hO
  have hps := HP2.safe
  have hpl := HP2.len
  subst hm
  refine HW.trans (HW.at_.one (q := { p with b := p.b.take n, safe := min p.safe n, val := .slice A2 n c2 }) ?_ (At.store HP2.cell (by rw [hlt]; exact hO) (by rw [hlt]; omega) (by rw [hlt]; omega)) rfl rfl rfl fun k e => .inr (hob k e))
  exact ((((Kept.refl _ w').drew).trans' (HK2.mono fun _ _ h => h.elim)).trans' ((kF w2 p.blk 0 _).mono fun k _ e => by subst e; exact List.mem_cons_self ..)).trans' ((kF _ p.blk 1 _).mono fun k _ e => by subst e; exact List.mem_cons_self ..)
end Go.Proofs.YtefpigakhhfcaaaDoor
end
