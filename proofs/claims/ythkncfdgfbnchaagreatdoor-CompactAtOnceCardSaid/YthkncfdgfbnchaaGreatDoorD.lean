/-
  Package files: New, Clone of bytes, Append, Sync, Truncate, Rename, Remove, Read.
-/
import Derived.Test.YthkncfdgfbnchaaGreatDoorC
set_option linter.unusedVariables false
set_option linter.unusedSimpArgs false
namespace Go.Proofs.YthkncfdgfbnchaaGreatDoor
open Go.RowKit

theorem infoU8 : (Tryz.prog.info? 5).map (fun i => (i.zero, i.size, i.bytes)) = some (some (.int .u8 0), 1, 1) := by kernel_rfl
theorem build0 (w : World) : (Instr.buildSlice 54 0 #[]).run Tryz.prog w = .ok (.slice (some ⟨w.heap.size, 0, none⟩) 0 0) (w.alloc (.cells #[] 5)) := by kernel_rfl

def ClonePost (w : World) (xs : List UInt8) (e : Ending) (w' : World) : Prop :=
  ∃ v, e = .returned v ∧ w'.ownsRow w.heap.size 5 1 v xs.length (xs.map bv) ∧ Kept (fun _ => False) w w'
set_option maxRecDepth 100000 in
set_option maxHeartbeats 1000000 in
theorem clone_nil (w : World) : Calls Tryz.prog 40 #[.slice none 0 0] w (ClonePost w []) := by
  have hne : (binOp .eql 54 (.slice none 0 0) (.slice none 0 0)).run Tryz.prog w = .ok (.bool true) w := by kernel_rfl
  go_enter Tryz.func40, Tryz.ntmps40
  go_wp2
  go_ret
  exact ⟨_, rfl, World.ownsRow_nil _ _ _ _, Kept.refl _ _⟩
set_option maxHeartbeats 1000000 in
theorem clone_some (w : World) (a : Addr) (n c : Nat) (xs : List UInt8) (hn : Hid (n = xs.length)) (hl : n ≤ 1000000000) (h : Bs w (some a) xs) : Calls Tryz.prog 40 #[.slice (some a) n c] w (ClonePost w xs) := by
  obtain ⟨i0, hi, hz0, hz1, hz2⟩ := info_parts infoU8
  have H := Lib.hid h
  have hb := build0 w
  have hown : (w.alloc (.cells #[] 5)).ownsRow w.heap.size 5 1 (.slice (some ⟨w.heap.size, 0, none⟩) 0 0) 0 [] :=
    ⟨by simp, .inr ⟨w.heap.size, 0, #[], rfl, Nat.le_refl _, heap_alloc_new w _, Nat.le_refl _, by simp, by simp, by simp⟩⟩
  have HO := Lib.hid hown
  have hkp : Kept (fun _ => False) w (w.alloc (.cells #[] 5)) := (Kept.refl _ w).alloc _
  have HK := Lib.hid hkp
  have hne : (binOp .eql 54 (.slice (some a) n c) (.slice none 0 0)).run Tryz.prog w = .ok (.bool false) w := by
    kernel_rfl
  clear h hown hkp
  go_enter Tryz.func40, Tryz.ntmps40
  go_wp2_with (at_builtin; refine wpList_append_own _ rfl _ _ 54 rfl w.heap.size 5 i0 (.int .u8 0) 1 1 Tryz.underlying54 hi hz0 hz1 hz2 rfl (by decide) _ 0 [] rfl HO.out a n c (xs.map bv) rfl ?c1 ?c2 ?c3 ?c4 ?c5 ?c6 ?_; rotate_right; intro v' w1 hown hgrow hnil)
  case c1 => simp [hn.out]
  case c2 => exact (H.out.kept HK.out (by simp)).2 a rfl
  case c3 => exact bv_one xs
  case c4 => unfold maxLen; omega
  case c5 => omega
  case c6 => simp
  simp only [Nat.zero_add, List.nil_append] at hown
  rw [hn.out] at hown
  go_ret
  exact ⟨v', rfl, hown, HK.out.grown hgrow (fun k e hk => by
    have : w.heap.size = k := by simpa [Value.ownBlock, Act.eval] using e
    omega)⟩
theorem clone_any (w : World) (A : Option Addr) (n c : Nat) (xs : List UInt8) (hn : n = xs.length) (hl : n ≤ 1000000000) (h : Bs w A xs) (hA : A = none → c = 0) : Calls Tryz.prog 40 #[.slice A n c] w (ClonePost w xs) := by
  cases A with
  | none =>
    have h1 := h.1 rfl
    have h2 := hA rfl
    subst h1; subst h2
    simp only [List.length_nil] at hn
    subst hn
    exact clone_nil w
  | some a => exact clone_some w a n c xs hn hl h

/-! ### New -/
def NewPost (w : World) (n : Int) (e : Ending) (w' : World) : Prop :=
  ∃ F M, e = .returned (.pointer (some ⟨F, 0, none⟩)) ∧ FilesAt w' F M [] 0 (boundI n) 0 false ∧ Kept (fun _ => False) w w' ∧ w.heap.size ≤ F ∧ w.heap.size ≤ M
set_option maxHeartbeats 1000000 in
theorem new_any (w : World) (n : Int) : Calls Tryz.prog 5 #[.int .i64 n] w (NewPost w n) := by
  have hmm := @run_makeMap Tryz.prog
  have Hr := Lib.hid (boundI_r n)
  obtain ⟨b, hb⟩ : ∃ b, b = boundI n := ⟨_, rfl⟩
  have HB := Lib.hid (bound_any n (w.alloc (.map #[] 0)))
  rw [← hb] at HB Hr
  have hbu : (Instr.build 61 #[(0, .map (some w.heap.size)), (1, .int .i64 b)]).run Tryz.prog (w.alloc (.map #[] 0)) = .ok (.agg #[.map (some w.heap.size), .int .i64 b, .int .i64 0, .bool false]) (w.alloc (.map #[] 0)) := by kernel_rfl
  have Hb := Lib.hid hb
  clear hb
  go_enter Tryz.func5, Tryz.ntmps5
  go_wp2_with (go_at_call 25; refine HB.out.mono ?_; rintro e w' ⟨rfl, rfl⟩)
  go_ret
  refine ⟨w.heap.size + 1, w.heap.size, rfl, ⟨?_, ?_, by simp, by simp, by simp, by simp, ?_, ?_, by omega⟩, ((Kept.refl _ w).alloc _).alloc _, by omega, Nat.le_refl _⟩
  · rw [← Hb.out]
    have := heap_alloc_new (w.alloc (.map #[] 0)) (.cells #[.map (some w.heap.size), .int .i64 b, .int .i64 0, .bool false] 61)
    rw [World.size_alloc] at this
    exact this
  · rw [Below.heap_alloc _ _ _ (by rw [World.size_alloc]; omega)]
    exact heap_alloc_new w _
  · simp [foot]
  · rw [← Hb.out]; exact Hr.out

/-! ### Read -/
def ReadPost (w : World) (F M : Nat) (xs : List UInt8) (er : Int) (e : Ending) (w' : World) : Prop :=
  ∃ v, e = .returned (.tuple #[v, .int .i64 er]) ∧ w'.ownsRow w.heap.size 5 1 v xs.length (xs.map bv) ∧ Kept (fun _ => False) w w'
theorem read_nil (s : ByteArray) (w : World) : Calls Tryz.prog 28 #[.pointer none, .string s] w (ReadPost w 0 0 [] 2) := by
  go_enter Tryz.func28, Tryz.ntmps28
  go_wp2_with (go_at_call 50; refine (there_nil _ _).mono ?_; rintro e w' ⟨rfl, rfl⟩)
  go_ret2
  exact ⟨_, rfl, World.ownsRow_nil _ _ _ _, Kept.refl _ _⟩
theorem read_down (s : ByteArray) (w : World) (F M : Nat) (lim arm : Int) (h : FB w F M lim arm true) : Calls Tryz.prog 28 #[.pointer (some ⟨F, 0, none⟩), .string s] w (ReadPost w F M [] 13) := by
  have H := Lib.hid (there_down s w F M lim arm h)
  clear h
  go_enter Tryz.func28, Tryz.ntmps28
  go_wp2_with (go_at_call 50; refine H.out.mono ?_; rintro e w' ⟨rfl, rfl⟩)
  go_ret2
  exact ⟨_, rfl, World.ownsRow_nil _ _ _ _, Kept.refl _ _⟩
theorem read_none (s : ByteArray) (w : World) (F M : Nat) (lim arm : Int) (ps : List PF) (clock : Nat) (h : FilesAt w F M ps clock lim arm false) (hn : ∀ p ∈ ps, p.name ≠ s) :
    Calls Tryz.prog 28 #[.pointer (some ⟨F, 0, none⟩), .string s] w (ReadPost w F M [] 8) := by
  have H := Lib.hid (there_none s w F M lim arm ps clock h hn)
  clear h hn
  go_enter Tryz.func28, Tryz.ntmps28
  go_wp2_with (go_at_call 50; refine H.out.mono ?_; rintro e w' ⟨rfl, rfl⟩)
  go_ret2
  exact ⟨_, rfl, World.ownsRow_nil _ _ _ _, Kept.refl _ _⟩
theorem PF.At.c0 {w : World} {p : PF} (h : p.At w) : w.cell? ⟨p.blk, 0, none⟩ = some p.val := by simp [World.cell?, h.cell]
theorem PF.At.c1 {w : World} {p : PF} (h : p.At w) : w.cell? ⟨p.blk, 1, none⟩ = some (.int .i64 p.safe) := by simp [World.cell?, h.cell]
theorem PF.At.fz {w : World} {p : PF} (h : p.At w) (i : Nat) : w.frozen? ⟨p.blk, i, none⟩ = false := by simp [World.frozen?, h.cell]
theorem read_some (w : World) (F M : Nat) (lim arm : Int) (l1 l2 : List PF) (p : PF) (clock : Nat) (h : FilesAt w F M (l1 ++ p :: l2) clock lim arm false) :
    Calls Tryz.prog 28 #[.pointer (some ⟨F, 0, none⟩), .string p.name] w (ReadPost w F M p.b 0) := by
  have H := Lib.hid (there_some w F M lim arm l1 l2 p clock h)
  have hp := h.at_ p (by simp)
  obtain ⟨A, c, hv, hlen, hbs, hA, _⟩ := Bs.of_own hp.own
  have hc := hp.c0
  rw [hv] at hc
  have HC := Lib.hid (clone_any w A p.b.length c p.b rfl (by have := hp.len; omega) hbs hA)
  clear h hp hv hlen hbs hA
  go_enter Tryz.func28, Tryz.ntmps28
  go_wp2_with (first | (go_at_call 50; refine H.out.mono ?_; rintro e w' ⟨rfl, rfl⟩) | (go_at_call 40; refine HC.out.mono ?_; rintro e w' ⟨v, rfl, hown, hk⟩))
  go_ret2
  exact ⟨v, rfl, hown, hk⟩
end Go.Proofs.YthkncfdgfbnchaaGreatDoor
