/-
  Nil files: Crash, Start, Fork, List; couranthelp.Seq of no strings.
-/
import Derived.Test.YthkncfdgfbnchaaGreatDoorD
import Derived.Test.YthkncfdgfbnchaaGreatDoorN
set_option linter.unusedVariables false
set_option linter.unusedSimpArgs false
namespace Go.Proofs.YthkncfdgfbnchaaGreatDoor
open Go.RowKit

theorem results_cell2 {P : Program} {fn : Func} {p q : Tmp} {ty ty' : TypeId} (h : fn.results = #[.cell p ty, .cell q ty']) (hag : ∀ w, (isAgg ty).run P w = .ok false w) (hag' : ∀ w, (isAgg ty').run P w = .ok false w) {tmps : Array Value} {a b : Addr}
    (hp : tmps.getD p undef = .pointer (some a)) (hq : tmps.getD q undef = .pointer (some b)) {w : World} {v u : Value} (hc : w.cell? a = some v) (hd : w.cell? b = some u) :
    (results fn tmps).run P w = .ok (.tuple #[v, u]) w := by
  have hp' : tmps[p]?.getD undef = .pointer (some a) := by simpa using hp
  have hq' : tmps[q]?.getD undef = .pointer (some b) := by simpa using hq
  simp [results, h, hp', hq', asAddr, loadVar, hag, hag', go_sem, hc, hd]
theorem crash_nil (a : Option Addr) (n c : Nat) (w : World) : Calls Tryz.prog 12 #[.pointer none, .slice a n c] w fun e w' => e = .returned (.tuple #[]) ∧ Kept (fun _ => False) w w' := by
  refine calls_of_marks Tryz.func12 rfl ?_
  simp only [Tryz.ntmps12, List.size_toArray, List.length_cons, List.length_nil, Nat.reduceAdd, Nat.reduceSub, Array.replicate_succ, Array.replicate_zero, List.push_toArray, List.append_toArray, List.nil_append, List.cons_append]
  go_wp2
  exact leave_none (v := .tuple #[]) (by kernel_rfl) ⟨rfl, ((Kept.refl _ _).alloc _).alloc _⟩
theorem start_nil (w : World) : Calls Tryz.prog 13 #[.pointer none] w fun e w' => e = .returned (.tuple #[]) ∧ w = w' := by
  go_enter Tryz.func13, Tryz.ntmps13
  go_wp2
  refine bodyPost_ret (results_none rfl _ _ _) rfl ?_
  exact ⟨rfl, rfl⟩
theorem sorted_nil (w : World) : Calls Tryz.prog 45 #[.pointer none] w fun e w' => e = .returned (.slice none 0 0) ∧ w = w' := by
  go_enter Tryz.func45, Tryz.ntmps45
  go_wp2
  go_ret
  exact ⟨rfl, rfl⟩
theorem valuesS_any (v : Value) (w : World) (hv : v = .slice none 0 0) : Calls Tryz.prog 44 #[v] w fun e w' => e = .returned (.func (.func 66) #[] #[.pointer (some ⟨w.heap.size, 0, none⟩)]) ∧ w' = w.alloc (.cells #[v] 41) := by
  subst hv
  go_enter Tryz.func44, Tryz.ntmps44
  go_wp2
  go_ret
  exact ⟨rfl, rfl⟩
theorem list_nil (w : World) : Calls Tryz.prog 18 #[.pointer none] w fun e w' => e = .returned (.func (.func 66) #[] #[.pointer (some ⟨w.heap.size, 0, none⟩)]) ∧ w' = w.alloc (.cells #[.slice none 0 0] 41) := by
  have HV := Lib.hid (valuesS_any (.slice none 0 0) w rfl)
  go_enter Tryz.func18, Tryz.ntmps18
  go_wp2_with (first | (go_at_call 45; refine (sorted_nil _).mono ?_; rintro e w' ⟨rfl, rfl⟩) | (go_at_call 44; refine HV.out.mono ?_; rintro e w' ⟨rfl, rfl⟩))
  go_ret
  exact ⟨rfl, rfl⟩
/-- The iterator over no strings. -/
theorem values_none_iter (B : Nat) (w : World) (hb : Boxed w B 41 (.slice none 0 0)) :
    Iter Tryz.prog 66 #[.pointer (some ⟨B, 0, none⟩)] (fun x : Empty => #[]) (fun _ => False) (fun _ => False) [] w := by
  intro l J Jx W hW hJ hJx hY h0
  refine callsIn_of_wp Tryz.func66 rfl trivial ?_ rfl
  have hb' : Boxed W B 41 (.slice none 0 0) := hW.heap hb (by simp)
  have hcp := hb'.cell
  clear hb hb' hY
  simp only [Tryz.ntmps66, List.size_toArray, List.length_cons, List.length_nil, Nat.reduceAdd, Nat.reduceSub, Array.replicate_succ, Array.replicate_zero, List.push_toArray, List.append_toArray, List.nil_append, List.cons_append]
  gi_wp2
  gi_loopw [7] (fun i wr => i = .int .i64 0 ∧ wr = W) (fun _ _ => 0)
  case atStart => exact ⟨rfl, rfl⟩
  case round =>
    obtain ⟨rfl, rfl⟩ := hrel
    gi_wp2
    refine bodyPost_end (results_none rfl _ _ _) rfl ?_
    exact ⟨⟨_, rfl⟩, .inl h0⟩
set_option maxRecDepth 100000 in
set_option maxHeartbeats 1000000 in
theorem seq_none (w : World) (B0 : Nat) (hb0 : Boxed w B0 41 (.slice none 0 0)) (n : Int) :
    Calls Tryz.prog 17 #[.func (.func 66) #[] #[.pointer (some ⟨B0, 0, none⟩)], .int .i64 n] w fun e w' => e = .returned (.tuple #[.slice none 0 0, .bool true]) ∧ Kept (fun _ => False) w w' := by
  refine calls_of_marks Tryz.func17 rfl ?_
  simp only [Tryz.ntmps17, List.size_toArray, List.length_cons, List.length_nil, Nat.reduceAdd, Nat.reduceSub, Array.replicate_succ, Array.replicate_zero, List.push_toArray, List.append_toArray, List.nil_append, List.cons_append]
  have hlt0 := (Array.getElem?_eq_some_iff.1 hb0).1
  have Hlt := Lib.hid hlt0
  have Hb0 := Lib.hid hb0
  clear hlt0 hb0
  have hne : ∀ W, (binOp .eql 45 (.func (.func 66) #[] #[.pointer (some ⟨B0, 0, none⟩)]) .nilFunc).run Tryz.prog W = .ok (.bool false) W := fun W => by kernel_rfl
  go_wp2_with fail
  obtain ⟨W0, hW0⟩ : ∃ W0, W0 = (((w.alloc (.cells #[.int .i64 n] 3)).alloc (.cells #[.slice none 0 0] 41)).alloc (.cells #[.bool false] 4)).alloc (.cells #[.slice none 0 0] 41) := ⟨_, rfl⟩
  rw [← hW0]
  obtain ⟨B, hB⟩ : ∃ B, B = w.heap.size := ⟨_, rfl⟩
  have hsz : W0.heap.size = B + 4 := by rw [hW0, hB]; simp
  have hkp : Kept (fun _ => False) w W0 := by rw [hW0]; exact ((((Kept.refl _ w).alloc _).alloc _).alloc _).alloc _
  have h1 : Boxed W0 (B + 1) 41 (.slice none 0 0) := by
    have := ((Boxed.new (w.alloc (.cells #[.int .i64 n] 3)) 41 (.slice none 0 0)).alloc (.cells #[.bool false] 4)).alloc (.cells #[.slice none 0 0] 41)
    rw [hW0, hB]; simpa using this
  have h2 : Boxed W0 (B + 2) 4 (.bool false) := by
    have := (Boxed.new ((w.alloc (.cells #[.int .i64 n] 3)).alloc (.cells #[.slice none 0 0] 41)) 4 (.bool false)).alloc (.cells #[.slice none 0 0] 41)
    rw [hW0, hB]; simpa using this
  have h3 : Boxed W0 (B + 3) 41 (.slice none 0 0) := by
    have := Boxed.new (((w.alloc (.cells #[.int .i64 n] 3)).alloc (.cells #[.slice none 0 0] 41)).alloc (.cells #[.bool false] 4)) 41 (.slice none 0 0)
    rw [hW0, hB]; simpa using this
  clear hW0
  rw [← hB]
  have HBw := Lib.hid hB
  clear hB
  have hit := values_none_iter B0 W0 (hkp.heap Hb0.out (by simp))
  refine wp_range (gf := 66) rfl (enters_of Tryz.func66 (by kernel_rfl) rfl) hit (fun x => x.elim) (fun k h => h.elim) (fun k h => h.elim)
    (fun pre W => Boxed W (B + 1) 41 (.slice none 0 0) ∧ Boxed W (B + 2) 4 (.bool false) ∧ Boxed W (B + 3) 41 (.slice none 0 0) ∧ Kept (fun _ => False) w W)
    (fun c pre W => False)
    (fun pre A C h hk => ⟨hk.heap h.1 (by rintro (h | h | h) <;> first | exact h.elim | omega), hk.heap h.2.1 (by rintro (h | h | h) <;> first | exact h.elim | omega), hk.heap h.2.2.1 (by rintro (h | h | h) <;> first | exact h.elim | omega), h.2.2.2.trans hk (fun i hi h => by have := HBw.out; rcases h with h | h | h <;> first | exact h.elim | omega)⟩)
    (fun c pre A C h hk => h.elim) ⟨h1, h2, h3, hkp⟩ (fun x => x.elim) ?assign ?body ?done ?stop
  case assign =>
    intro l x W K hK
    exact x.elim
  case body =>
    rintro l pre x post W hxs
    simp at hxs
  case done =>
    rintro W ⟨b1, b2, b3, hk⟩ hD
    have c1 := b1.cell
    have c2 := b2.cell
    have c3 := b3.cell
    have f1 := b1.frozen
    have f2 := b2.frozen
    have HD := Lib.hid hD
    have HK := Lib.hid hk
    have HB1 := Lib.hid b1
    have HB2 := Lib.hid b2
    clear b1 b2 b3 hk hD h1 h2 h3 hkp hit
    go_wp2
    refine leave_mark ((Below.heap_setCell _ _ _ _ (by simp; omega)).trans ((Below.heap_setCell _ _ _ _ (by simp; omega)).trans HD.out)) (results_cell2 rfl (fun w => by kernel_rfl) (fun w => by kernel_rfl) rfl rfl (v := .slice none 0 0) (u := .bool true) ?_ ?_) ⟨rfl, ?_⟩
    · have hb : Boxed ((W.setCell ⟨B + 1, 0, none⟩ (.slice none 0 0)).setCell ⟨B + 1 + 1, 0, none⟩ (.bool true)) (B + 1) 41 (.slice none 0 0) := (kF _ (B + 1 + 1) 0 _).heap (HB1.out.set (.slice none 0 0)) (by omega)
      exact Boxed.cell ((putObj_kept _ W0.heap.size _).heap hb (by omega))
    · have hb2 : Boxed (W.setCell ⟨B + 1, 0, none⟩ (.slice none 0 0)) (B + 1 + 1) 4 (.bool false) := (kF W (B + 1) 0 _).heap HB2.out (by omega)
      exact Boxed.cell ((putObj_kept _ W0.heap.size _).heap (hb2.set (.bool true)) (by omega))
    · exact ((HK.out.setCell (p := ⟨B + 1, 0, none⟩) (fun h => by have := HBw.out; simp at h; omega) _).setCell (p := ⟨B + 1 + 1, 0, none⟩) (fun h => by have := HBw.out; simp at h; omega) _).putObj (fun h => by have := HBw.out; omega) _
  case stop =>
    rintro c pre W hpre h
    exact h.elim
end Go.Proofs.YthkncfdgfbnchaaGreatDoor
