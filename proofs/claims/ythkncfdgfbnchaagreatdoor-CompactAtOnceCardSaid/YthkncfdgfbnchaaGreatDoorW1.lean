/-
  Files of a call's own, at whatever arm: what FilesSafe and FilesSwap are walked by.
-/
import Derived.Test.YthkncfdgfbnchaaGreatDoorA1
import Derived.Test.YthkncfdgfbnchaaGreatDoorD10
import Derived.Test.YthkncfdgfbnchaaGreatDoorE1
import Derived.Test.YthkncfdgfbnchaaGreatDoorK3
import Derived.Test.YthkncfdgfbnchaaGreatDoorB1
set_option linter.unusedVariables false
set_option linter.unusedSimpArgs false
namespace Go.Proofs.YthkncfdgfbnchaaGreatDoor
open Go.RowKit

def nmB : ByteArray := ⟨#[98]⟩
theorem nmB_full : fullB nmB = true := by kernel_rfl
/-- Files of this call's own. -/
structure Own (w W : World) (F M : Nat) (ps : List PF) (clock : Nat) (lim arm : Int) (dn : Bool) : Prop where
  at_ : FilesAt W F M ps clock lim arm dn
  new : ∀ k ∈ foot F M ps, w.heap.size ≤ k
  kept : Kept (fun _ => False) w W
variable {w W W' : World} {F M : Nat} {ps ps' : List PF} {clock clock' : Nat} {lim arm arm' : Int} {dn dn' : Bool}
theorem Own.step (h : Own w W F M ps clock lim arm dn) (k : Went W F M ps ps' clock' lim arm' dn' W') : Own w W' F M ps' clock' lim arm' dn' :=
  ⟨k.at_, fun i hi => (k.feet i hi).elim (h.new i) fun hi => Nat.le_trans h.kept.size hi, h.kept.trans k.kept fun i hi hm => by have := h.new i hm; omega⟩
theorem Own.stay (h : Own w W F M ps clock lim arm dn) (k : Kept (fun _ => False) W W') : Own w W' F M ps clock lim arm dn := ⟨h.at_.kept k (by simp), h.new, h.kept.trans' k⟩
theorem Room.own' (h : Room w W F M ps clock lim) : Own w W F M ps clock lim 0 false := ⟨h.at_, h.new, h.kept⟩
/-- A slice that came in is as it was. -/
theorem Own.bs (h : Own w W F M ps clock lim arm dn) {A : Option Addr} {xs : List UInt8} (hx : Bs w A xs) : Bs W A xs := hx.kept h.kept (by simp)
theorem Own.armed (h : Own w W F M ps clock lim arm dn) {n : Int} (h0 : 0 ≤ n) (h1 : n ≤ 100) : Calls Tryz.prog 11 #[.pointer (some ⟨F, 0, none⟩), .int .i64 n] W fun e w' => e = .returned (.tuple #[]) ∧ Own w w' F M ps clock lim n dn := by
  refine (arm_any n W F M lim arm dn h.at_.fb).mono ?_
  rintro e w' ⟨he, hfb, hk⟩
  have e1 : armI n = n := by unfold armI; split <;> omega
  rw [e1] at hfb
  exact ⟨he, h.step ⟨h.at_.own hk hfb h.at_.lim0 (by omega), hk.ofF, fun k hk => .inl hk⟩⟩
/-- All falls; it is started. -/
theorem Own.fallen (h : Own w W F M ps clock lim arm dn) {A : Option Addr} {n c : Nat} (hn : ps.length ≤ 1000000) (hm : ∀ p ∈ ps, p.name.size ≤ 1000000) (hks : ∀ j, j < n → ∃ ad z, A = some ad ∧ w.cell? (ad.add j) = some (.int .i64 z)) :
    Calls Tryz.prog 12 #[.pointer (some ⟨F, 0, none⟩), .slice A n c] W fun e w' => e = .returned (.tuple #[]) ∧ ∃ qs, Own w w' F M qs clock lim arm true ∧ All2 Fell ps qs := by
  refine (crash_any W F M ps clock lim arm dn A n c h.at_ hn hm (Lib.hid fun j hj => ?_)).mono ?_
  · obtain ⟨ad, z, e, hc⟩ := hks j hj
    refine ⟨ad, z, e, fun hf => ?_, h.kept.cell hc (by simp)⟩
    have h1 := h.new _ hf
    have h2 := World.block_lt_of_cell? w _ hc
    rw [add_block] at h2
    omega
  · rintro e w' ⟨he, qs, hw, ha⟩
    exact ⟨he, qs, h.step hw, ha⟩
theorem Own.started (h : Own w W F M ps clock lim arm true) (hn : ps.length ≤ 1000000) (hm : ∀ p ∈ ps, p.name.size ≤ 1000000) :
    Calls Tryz.prog 13 #[.pointer (some ⟨F, 0, none⟩)] W fun e w' => e = .returned (.tuple #[]) ∧ ∃ qs, Own w w' F M qs clock lim 0 false ∧ All2 Fell ps qs := by
  refine (start_down W F M ps clock lim arm h.at_ hn hm).mono ?_
  rintro e w' ⟨he, qs, hw, ha⟩
  exact ⟨he, qs, h.step hw, ha⟩
theorem All2.len {ps qs : List PF} (h : All2 Fell ps qs) : qs.length = ps.length := h.1.symm
theorem All2.names {ps qs : List PF} (h : All2 Fell ps qs) (hm : ∀ p ∈ ps, p.name.size ≤ 1000000) : ∀ q ∈ qs, q.name.size ≤ 1000000 := by
  intro q hq
  obtain ⟨i, hi⟩ := List.getElem?_of_mem hq
  have hil : i < ps.length := by rw [h.1]; exact (List.getElem?_eq_some_iff.1 hi).1
  have hp := List.getElem?_eq_getElem hil
  rw [(h.2 i _ q hp hi).name]
  exact hm _ (List.getElem_mem hil)
end Go.Proofs.YthkncfdgfbnchaaGreatDoor
