import Derived.Test.YtefpigakhhfcaaaDoorMab
import Derived.Test.YtefpigakhhfcaaaDoorMad
import Derived.Deep.QuietTactic
import Derived.BigQuiet
/-! The small functions of package files: bound, ready, hit, there, Arm, Limit, Down, Used, Clone. -/
section
set_option linter.unusedVariables false
set_option linter.unusedSimpArgs false
namespace Go.Proofs.YtefpigakhhfcaaaDoor
open Go.RowKit

/-- The block of the files' own fields. -/
def FB (w : World) (F M : Nat) (lim arm : Int) (dn : Bool) : Prop := w.heap[F]? = some (.cells #[.map (some M), .int .i64 lim, .int .i64 arm, .bool dn] 77 (0, 0))
theorem FB.c0 {w : World} {F M : Nat} {lim arm : Int} {dn : Bool} (h : FB w F M lim arm dn) : w.cell? ⟨F, 0, none⟩ = some (.map (some M)) := by simp [World.cell?, show w.heap[F]? = _ from h]
theorem FB.c1 {w : World} {F M : Nat} {lim arm : Int} {dn : Bool} (h : FB w F M lim arm dn) : w.cell? ⟨F, 1, none⟩ = some (.int .i64 lim) := by simp [World.cell?, show w.heap[F]? = _ from h]
theorem FB.c2 {w : World} {F M : Nat} {lim arm : Int} {dn : Bool} (h : FB w F M lim arm dn) : w.cell? ⟨F, 2, none⟩ = some (.int .i64 arm) := by simp [World.cell?, show w.heap[F]? = _ from h]
theorem FB.c3 {w : World} {F M : Nat} {lim arm : Int} {dn : Bool} (h : FB w F M lim arm dn) : w.cell? ⟨F, 3, none⟩ = some (.bool dn) := by simp [World.cell?, show w.heap[F]? = _ from h]
theorem FB.fz {w : World} {F M : Nat} {lim arm : Int} {dn : Bool} (h : FB w F M lim arm dn) (i : Nat) : w.frozen? ⟨F, i, none⟩ = false := by simp [World.frozen?, show w.heap[F]? = _ from h]
theorem FB.s1 {w : World} {F M : Nat} {lim arm : Int} {dn : Bool} (h : FB w F M lim arm dn) (v : Int) : FB (w.setCell ⟨F, 1, none⟩ (.int .i64 v)) F M v arm dn := by
  unfold FB World.setCell; simp only [Array.getElem?_modify, if_true, show w.heap[F]? = _ from h]; rfl
theorem FB.s2 {w : World} {F M : Nat} {lim arm : Int} {dn : Bool} (h : FB w F M lim arm dn) (v : Int) : FB (w.setCell ⟨F, 2, none⟩ (.int .i64 v)) F M lim v dn := by
  unfold FB World.setCell; simp only [Array.getElem?_modify, if_true, show w.heap[F]? = _ from h]; rfl
theorem FB.s3 {w : World} {F M : Nat} {lim arm : Int} {dn : Bool} (h : FB w F M lim arm dn) (v : Bool) : FB (w.setCell ⟨F, 3, none⟩ (.bool v)) F M lim arm v := by
  unfold FB World.setCell; simp only [Array.getElem?_modify, if_true, show w.heap[F]? = _ from h]; rfl
theorem kF (w : World) (F i : Nat) (v : Value) : Kept (fun k => k = F) w (w.setCell ⟨F, i, none⟩ v) := (Kept.refl (fun k => k = F) w).setCell (p := ⟨F, i, none⟩) (fun _ => rfl) v

def boundI (n : Int) : Int := if n ≤ 0 then 0 else if 4194304 ≤ n then 4194304 else n
theorem boundI_r (n : Int) : 0 ≤ boundI n ∧ boundI n ≤ 4194304 := by unfold boundI; split <;> (try split) <;> omega
set_option maxHeartbeats 400000 in
theorem bound_any (n : Int) (w : World) : Calls Tryd.prog 29 #[.int .i64 n] w fun e w' => e = .returned (.int .i64 (boundI n)) ∧ w = w' := by
  by_cases h2 : 4194304 < n
  · have HB := Lib.hid (show boundI n = 4194304 by unfold boundI; rw [if_neg (by omega), if_pos (by omega)])
    go_enter Tryd.func29, Tryd.ntmps29
    go_wp2
    go_ret
    exact ⟨ret_int HB.out.symm, rfl⟩
  · have h2' : n ≤ 4194304 := by omega
    by_cases h1 : n ≤ 0
    · have HB := Lib.hid (show boundI n = 0 by unfold boundI; rw [if_pos h1])
      go_enter Tryd.func29, Tryd.ntmps29
      go_wp2
      go_ret
      exact ⟨ret_int HB.out.symm, rfl⟩
    · have h1' : 0 < n := by omega
      have HB := Lib.hid (show boundI n = n by unfold boundI; rw [if_neg h1]; split <;> omega)
      go_enter Tryd.func29, Tryd.ntmps29
      go_wp2
      go_ret
      exact ⟨ret_int HB.out.symm, rfl⟩

set_option maxHeartbeats 400000 in
theorem ready_nil (w : World) : Calls Tryd.prog 54 #[.pointer none] w fun e w' => e = .returned (.int .i64 2) ∧ w = w' := by
  go_enter Tryd.func54, Tryd.ntmps54
  go_wp2
  go_ret
  exact ⟨rfl, rfl⟩
def rdy (dn : Bool) : Int := if dn then 13 else 0
set_option maxHeartbeats 400000 in
theorem ready_any (w : World) (F M : Nat) (lim arm : Int) (dn : Bool) (h : FB w F M lim arm dn) : Calls Tryd.prog 54 #[.pointer (some ⟨F, 0, none⟩)] w fun e w' => e = .returned (.int .i64 (rdy dn)) ∧ w = w' := by
  have h3 := h.c3
  clear h
  cases dn
  · go_enter Tryd.func54, Tryd.ntmps54
    go_wp2
    go_ret
    exact ⟨rfl, rfl⟩
  · go_enter Tryd.func54, Tryd.ntmps54
    go_wp2
    go_ret
    exact ⟨rfl, rfl⟩
def decA (arm : Int) : Int := if arm = 0 then 0 else arm - 1
theorem decA_r {arm : Int} (h : 0 ≤ arm ∧ arm ≤ 9223372036854775807) : 0 ≤ decA arm ∧ decA arm ≤ 9223372036854775807 := by unfold decA; split <;> omega
def HitPost (w : World) (F M : Nat) (lim arm : Int) (e : Ending) (w' : World) : Prop :=
  e = .returned (.bool (decide (arm = 1))) ∧ FB w' F M lim (decA arm) (decide (arm = 1)) ∧ Kept (fun k => k = F) w w'
set_option maxHeartbeats 400000 in
theorem hit_any (w : World) (F M : Nat) (lim arm : Int) (h : FB w F M lim arm false) (ha : 0 ≤ arm ∧ arm ≤ 9223372036854775807) : Calls Tryd.prog 50 #[.pointer (some ⟨F, 0, none⟩)] w (HitPost w F M lim arm) := by
  obtain ⟨ha0, ha1⟩ := ha
  have H := Lib.hid h
  by_cases h0 : arm = 0
  · subst h0
    have h2 := h.c2
    clear h
    go_enter Tryd.func50, Tryd.ntmps50
    go_wp2
    go_ret
    exact ⟨rfl, H.out, Kept.refl _ _⟩
  · have h2 := h.c2
    have f2 := h.fz 2
    have f3 := h.fz 3
    have h3 := h.c3
    have h0' : (arm == 0) = false := by simp [h0]
    by_cases h1 : arm = 1
    · subst h1
      clear h
      go_enter Tryd.func50, Tryd.ntmps50
      go_wp2
      go_ret
      exact ⟨rfl, (H.out.s2 0).s3 true, (kF _ _ _ _).trans' (kF _ _ _ _)⟩
    · have h1' : (arm - 1 == 0) = false := by rw [beq_eq_false_iff_ne]; omega
      have Hd := Lib.hid (show decide (arm = 1) = false by simp [h1])
      have He := Lib.hid (show decA arm = arm - 1 by unfold decA; rw [if_neg h0])
      have hgt : 1 < arm := by omega
      clear h h0 h1
      go_enter Tryd.func50, Tryd.ntmps50
      go_wp2
      go_ret
      unfold HitPost
      rw [Hd.out, He.out]
      exact ⟨rfl, (H.out.s2 (arm - 1)).s3 false, (kF _ _ _ _).trans' (kF _ _ _ _)⟩

/-! ### there -/
set_option maxHeartbeats 400000 in
theorem there_nil (s : ByteArray) (w : World) : Calls Tryd.prog 48 #[.pointer none, .string s] w fun e w' => e = .returned (.tuple #[.pointer none, .int .i64 2]) ∧ w = w' := by
  go_enter Tryd.func48, Tryd.ntmps48
  go_wp2_with (go_at_call 54; refine (ready_nil _).mono ?_; rintro e w' ⟨rfl, rfl⟩)
  go_ret2
  exact ⟨rfl, rfl⟩
set_option maxHeartbeats 400000 in
theorem there_down (s : ByteArray) (w : World) (F M : Nat) (lim arm : Int) (h : FB w F M lim arm true) : Calls Tryd.prog 48 #[.pointer (some ⟨F, 0, none⟩), .string s] w fun e w' => e = .returned (.tuple #[.pointer none, .int .i64 13]) ∧ w = w' := by
  have H := Lib.hid (ready_any w F M lim arm true h)
  rw [show rdy true = 13 from rfl] at H
  clear h
  go_enter Tryd.func48, Tryd.ntmps48
  go_wp2_with (go_at_call 54; refine H.out.mono ?_; rintro e w' ⟨rfl, rfl⟩)
  go_ret2
  exact ⟨rfl, rfl⟩
set_option maxHeartbeats 400000 in
theorem there_none (s : ByteArray) (w : World) (F M : Nat) (lim arm : Int) (ps : List PF) (clock : Nat) (h : FilesAt w F M ps clock lim arm false) (hn : ∀ p ∈ ps, p.name ≠ s) :
    Calls Tryd.prog 48 #[.pointer (some ⟨F, 0, none⟩), .string s] w fun e w' => e = .returned (.tuple #[.pointer none, .int .i64 8]) ∧ w = w' := by
  have H := Lib.hid (ready_any w F M lim arm false h.fb)
  rw [show rdy false = 0 from rfl] at H
  have h0 := FB.c0 (show FB w F M lim arm false from h.fb)
  have hl := look_none h.map s hn
  clear h hn
  go_enter Tryd.func48, Tryd.ntmps48
  go_wp2_with (go_at_call 54; refine H.out.mono ?_; rintro e w' ⟨rfl, rfl⟩)
  go_ret2
  exact ⟨rfl, rfl⟩
set_option maxHeartbeats 400000 in
theorem there_some (w : World) (F M : Nat) (lim arm : Int) (l1 l2 : List PF) (p : PF) (clock : Nat) (h : FilesAt w F M (l1 ++ p :: l2) clock lim arm false) :
    Calls Tryd.prog 48 #[.pointer (some ⟨F, 0, none⟩), .string p.name] w fun e w' => e = .returned (.tuple #[.pointer (some ⟨p.blk, 0, none⟩), .int .i64 0]) ∧ w = w' := by
  have H := Lib.hid (ready_any w F M lim arm false h.fb)
  rw [show rdy false = 0 from rfl] at H
  have h0 := FB.c0 (show FB w F M lim arm false from h.fb)
  have hl := look_some h.map (names_ne h.names).1 true
  rw [if_pos rfl] at hl
  clear h
  go_enter Tryd.func48, Tryd.ntmps48
  go_wp2_with (go_at_call 54; refine H.out.mono ?_; rintro e w' ⟨rfl, rfl⟩)
  go_ret2
  exact ⟨rfl, rfl⟩

/-! ### Arm, Limit, Down -/
def armI (n : Int) : Int := if n ≤ 0 then 0 else n
set_option maxHeartbeats 400000 in
theorem down_nil (w : World) : Calls Tryd.prog 23 #[.pointer none] w fun e w' => e = .returned (.bool false) ∧ w = w' := by
  go_enter Tryd.func23, Tryd.ntmps23
  go_wp2
  go_ret
  exact ⟨rfl, rfl⟩
set_option maxHeartbeats 400000 in
theorem down_any (w : World) (F M : Nat) (lim arm : Int) (dn : Bool) (h : FB w F M lim arm dn) : Calls Tryd.prog 23 #[.pointer (some ⟨F, 0, none⟩)] w fun e w' => e = .returned (.bool dn) ∧ w = w' := by
  have h3 := h.c3
  clear h
  go_enter Tryd.func23, Tryd.ntmps23
  go_wp2
  go_ret
  exact ⟨rfl, rfl⟩

/-! ### Used -/
theorem used_nil (w : World) : Calls Tryd.prog 55 #[.pointer none] w fun e w' => e = .returned (.int .i64 0) ∧ w = w' := by
  go_enter Tryd.func55, Tryd.ntmps55
  go_wp2
  go_ret
  exact ⟨rfl, rfl⟩
def usedL (ps : List PF) : Nat := (ps.map fun p => p.b.length).sum
/-- What is still to come: by the stamps that have been met. -/
def leftL (ps : List PF) (seen : Array Nat) : List PF := ps.filter fun p => !seen.contains p.born
theorem leftOf_entries (ps : List PF) (seen : Array Nat) : (leftOf (entriesOf ps) seen).toList = (leftL ps seen).map PF.entry := by
  simp only [leftOf, entriesOf, leftL]
  rw [Array.toList_filter, List.filter_map]
  rfl
def itLeft (ps : List PF) : Option Obj → Nat
  | some (.mapIter _ _ seen _) => (leftL ps seen).length
  | _ => 0
/-- One file comes out: what is left is one less. -/
theorem left_step (ps : List PF) (hb : (ps.map PF.born).Nodup) (seen : Array Nat) (p : PF) (hp : p ∈ leftL ps seen) :
    (leftL ps (seen.push p.born)).length + 1 = (leftL ps seen).length ∧ usedL (leftL ps seen) = p.b.length + usedL (leftL ps (seen.push p.born)) := by
  have hpp := (List.mem_filter.1 hp).1
  have hps := (List.mem_filter.1 hp).2
  obtain ⟨l1, l2, rfl⟩ := List.append_of_mem hpp
  have hne : ∀ q ∈ l1 ++ l2, q.born ≠ p.born := by
    simp only [List.map_append, List.map_cons] at hb
    rw [List.nodup_append] at hb
    obtain ⟨_, h2, h3⟩ := hb
    rw [List.nodup_cons] at h2
    intro q hq e
    rcases List.mem_append.1 hq with hq | hq
    · exact h3 q.born (List.mem_map.2 ⟨q, hq, rfl⟩) p.born (by simp) e
    · exact h2.1 (by rw [← e]; exact List.mem_map.2 ⟨q, hq, rfl⟩)
  have e : ∀ l : List PF, (∀ q ∈ l, q.born ≠ p.born) → l.filter (fun q => !(seen.push p.born).contains q.born) = l.filter (fun q => !seen.contains q.born) := by
    intro l hl
    apply List.filter_congr
    intro q hq
    have := hl q hq
    rw [Array.contains_push]
    simp [this]
  have h1 := e l1 (fun q hq => hne q (by simp [hq]))
  have h2 := e l2 (fun q hq => hne q (by simp [hq]))
  have hin : (!(seen.push p.born).contains p.born) = false := by simp
  simp only [leftL, List.filter_append, List.filter_cons, hin, hps, if_true, h1, h2]
  constructor
  · simp; omega
  · simp [usedL]; omega
theorem leftL_nil (ps : List PF) : leftL ps #[] = ps := by
  unfold leftL
  rw [List.filter_eq_self]
  intro a _; simp
set_option maxRecDepth 100000 in
set_option maxHeartbeats 1000000 in
theorem used_any (w : World) (F M : Nat) (lim arm : Int) (dn : Bool) (ps : List PF) (clock : Nat) (h : FilesAt w F M ps clock lim arm dn) (hu : usedL ps ≤ 1000000000) :
    Calls Tryd.prog 55 #[.pointer (some ⟨F, 0, none⟩)] w fun e w' => e = .returned (.int .i64 (usedL ps)) ∧ Kept (fun _ => False) w w' := by
  have h0 := FB.c0 (show FB w F M lim arm dn from h.fb)
  have hrg : (Instr.range 74 (.map (some M))).run Tryd.prog w = .ok (.pointer (some ⟨w.heap.size, 0, none⟩)) (w.alloc (.mapIter (some M) clock #[] clock)) := by
    simp only [Instr.range, Sem.run_bind, run_underlying Tryd.underlying74, Go.MapKept.run_getObj_map h.map, Result.andThen]
    rfl
  have HF := Lib.hid h
  have hu9 : ((usedL ps : Nat) : Int) ≤ 1000000000 := by omega
  have Hu := Lib.hid hu
  clear h hu
  go_enter Tryd.func55, Tryd.ntmps55
  go_wp2_with fail
  obtain ⟨r, hr⟩ : ∃ r, r = w.heap.size := ⟨_, rfl⟩
  have hr0 : (w.alloc (.mapIter (some M) clock #[] clock)).heap[r]? = some (.mapIter (some M) clock #[] clock) := by rw [hr]; exact heap_alloc_new w _
  have Hr := Lib.hid hr
  rw [← hr]
  clear hr hrg h0
  go_loopw [3, 5] (fun n _ wr => ∃ (seen : Array Nat) (m : Nat), n = .int .i64 m ∧ Hid (m + usedL (leftL ps seen) = usedL ps) ∧ Hid (wr.heap[r]? = some (.mapIter (some M) clock seen clock)) ∧ Hid (Kept (fun _ => False) w wr)) (fun _ _ wr => itLeft ps wr.heap[r]?)
  case atStart => exact ⟨#[], 0, rfl, Lib.hid (by rw [leftL_nil]; omega), Lib.hid hr0, Lib.hid ((Kept.refl _ w).alloc _)⟩
  case round =>
    obtain ⟨seen, m, rfl, hm, hit, hk⟩ := hrel
    have hFw : FilesAt wr F M ps clock lim arm dn := HF.out.kept hk.out (by simp)
    have hold : ∀ x ∈ (entriesOf ps).toList, x.born < clock := by
      intro x hx
      simp only [entriesOf] at hx
      obtain ⟨p, hp, rfl⟩ := List.mem_map.1 hx
      exact HF.out.old p hp
    have hmle : m ≤ usedL ps := by have := hm.out; omega
    rcases run_next_at (P := Tryd.prog) wr 0 r M clock clock seen (entriesOf ps) clock hit.out hFw.map hold (Nat.le_refl _) with ⟨hz, hrun⟩ | ⟨e, he, w1, hw1, hrun⟩
    · have hl0 : leftL ps seen = [] := by
        have : (leftOf (entriesOf ps) seen).toList.length = 0 := by simpa using hz
        rw [leftOf_entries] at this
        exact List.map_eq_nil_iff.1 (List.eq_nil_of_length_eq_zero this)
      have hmm : m = usedL ps := by have := hm.out; rw [hl0] at this; simpa [usedL] using this
      have Hmm := Lib.hid hmm
      clear hold hFw hz hl0 hmm
      go_wp2
      go_ret
      exact ⟨ret_int (by rw [Hmm.out]), hk.out⟩
    · rw [leftOf_entries] at he
      obtain ⟨p, hp, rfl⟩ := List.mem_map.1 he
      have hpp : p ∈ ps := (List.mem_filter.1 hp).1
      obtain ⟨hs1, hs2⟩ := left_step ps HF.out.borns seen p hp
      have hw1h : w1.heap = wr.heap := by rcases hw1 with rfl | rfl <;> rfl
      have hk1 : Kept (fun _ => False) wr w1 := by rcases hw1 with rfl | rfl; exact Kept.refl _ _; exact (Kept.refl _ _).drew
      obtain ⟨W2, hW2⟩ : ∃ W2, W2 = w1.putObj r (.mapIter (some M) clock (seen.push p.born) clock) := ⟨_, rfl⟩
      have hrlt : r < w1.heap.size := by rw [hw1h]; exact (Array.getElem?_eq_some_iff.1 hit.out).1
      have hit2 : W2.heap[r]? = some (.mapIter (some M) clock (seen.push p.born) clock) := by rw [hW2]; exact World.putObj_heap_same hrlt
      have hk2 : Kept (fun k => k = r) w1 W2 := by rw [hW2]; exact putObj_kept _ _ _
      have hkw : Kept (fun _ => False) w W2 := (hk.out.trans' hk1).trans hk2 (fun i hi e => by have := Hr.out; omega)
      have hF2 : FilesAt W2 F M ps clock lim arm dn := HF.out.kept hkw (by simp)
      have hrun' : (Instr.next (.pointer (some ⟨r, 0, none⟩)) false 0).run Tryd.prog wr = .ok (.tuple #[.bool true, p.entry.key, p.entry.val]) W2 := by rw [hW2]; exact hrun
      have hent : (Instr.entry (.pointer (some ⟨r, 0, none⟩))).run Tryd.prog W2 = .ok (.tuple #[p.entry.key, p.entry.val]) W2 :=
        run_entry_at (P := Tryd.prog) W2 r M clock seen (entriesOf ps) clock p.entry hit2 hF2.map (by simp only [entriesOf]; exact List.mem_map.2 ⟨p, hpp, rfl⟩) (by simp only [entriesOf, List.map_map]; exact HF.out.borns)
      obtain ⟨A, c, hv, hlen, _, _, _⟩ := Bs.of_own (hF2.at_ p hpp).own
      have hcell : W2.cell? ⟨p.blk, 0, none⟩ = some (.slice A p.b.length c) := by
        have := (hF2.at_ p hpp).cell
        rw [hv] at this
        simp [World.cell?, this]
      have hb1 : m + p.b.length ≤ usedL ps := by have := hm.out; omega
      have hb9 : (m : Int) + (p.b.length : Int) ≤ 1000000000 := by have := Hu.out; omega
      have HS1 := Lib.hid hs1
      have HM2 := Lib.hid (show m + p.b.length + usedL (leftL ps (seen.push p.born)) = usedL ps by have := hm.out; omega)
      have HI2 := Lib.hid hit2
      have HK2 := Lib.hid hkw
      simp only [PF.entry] at hrun' hent
      clear hold hFw hrun hw1 hw1h hk1 hW2 hrlt hit2 hk2 hkw hF2 hv hlen hs1 hs2 he hp hb1
      go_wp2
      go_roundw
      case rel => exact ⟨seen.push p.born, m + p.b.length, by simp, HM2, HI2, HK2⟩
      case measure =>
        rw [HI2.out, hit.out]
        simp only [itLeft]
        have := HS1.out
        omega
end Go.Proofs.YtefpigakhhfcaaaDoor
end
