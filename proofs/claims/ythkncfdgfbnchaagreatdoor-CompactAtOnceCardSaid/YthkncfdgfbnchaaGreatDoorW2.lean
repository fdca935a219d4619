/-
  courantlaw16.FilesSwap, walked: states.
-/
import Derived.Test.YthkncfdgfbnchaaGreatDoorW1
import Derived.Test.YthkncfdgfbnchaaGreatDoorF1
set_option linter.unusedVariables false
set_option linter.unusedSimpArgs false
namespace Go.Proofs.YthkncfdgfbnchaaGreatDoor
open Go.RowKit

theorem fits_of {lim : Int} {ps : List PF} {n u : Nat} (hu : usedL ps = u) (h : (n : Int) + (u : Int) ≤ lim) : Fits lim ps n := .inr (by rw [hu]; exact h)
/-- Append "a", the first file. -/
theorem Own.appA {w W : World} {F M : Nat} (h : Own w W F M [] 0 1048576 0 false) {A : Option Addr} {n c : Nat} {xs : List UInt8} (hx : Bs w A xs) (hn : n = xs.length) (hA : A = none → c = 0) (hl : n ≤ 5000) (hw : ∀ ad, A = some ad → xs = [] ∨ ad.block < w.heap.size) :
    Calls Tryz.prog 35 #[.pointer (some ⟨F, 0, none⟩), .string ⟨#[97]⟩, .slice A n c] W fun e w' => e = .returned (.int .i64 0) ∧ ∃ B v, Own w w' F M [⟨nmA, xs, 0, B, v, 0⟩] 1 1048576 0 false := by
  refine (append_new nmA A n c W F M 1048576 0 [] 0 xs (by simp) (by decide) nmA_full h.at_ (by simp [usedL]) (h.bs hx) hn hA (fits_of (u := 0) rfl (by omega)) (fun ad e => ?_)).mono ?_
  · have := h.new M (by simp [foot])
    exact (hw ad e).imp id fun h => by omega
  · rintro e w' ⟨B, v, rfl, hw'⟩
    exact ⟨rfl, B, v, h.step hw'⟩
theorem Own.syncA {w W : World} {F M B : Nat} {v : Value} {xs : List UInt8} (h : Own w W F M [⟨nmA, xs, 0, B, v, 0⟩] 1 1048576 0 false) :
    Calls Tryz.prog 36 #[.pointer (some ⟨F, 0, none⟩), .string ⟨#[97]⟩] W fun e w' => e = .returned (.int .i64 0) ∧ Own w w' F M [⟨nmA, xs, xs.length, B, v, 0⟩] 1 1048576 0 false := by
  refine (sync_ok W F M 1048576 0 [] [] ⟨nmA, xs, 0, B, v, 0⟩ 1 (by decide) h.at_).mono ?_
  rintro e w' ⟨rfl, hw'⟩
  exact ⟨rfl, h.step hw'⟩
/-- Append "b" beside a synced "a", at whatever arm. -/
theorem Own.appB {w W : World} {F M B : Nat} {v : Value} {ys : List UInt8} {arm : Int} (h : Own w W F M [⟨nmA, ys, ys.length, B, v, 0⟩] 1 1048576 arm false) {A : Option Addr} {n c : Nat} {xs : List UInt8} (hx : Bs w A xs) (hn : n = xs.length) (hA : A = none → c = 0) (hl : n ≤ 5000) (hy : ys.length ≤ 5000)
    (hw : ∀ ad, A = some ad → xs = [] ∨ ad.block < w.heap.size) :
    Calls Tryz.prog 35 #[.pointer (some ⟨F, 0, none⟩), .string ⟨#[98]⟩, .slice A n c] W fun e w' => e = .returned (.int .i64 (hitE arm)) ∧ ∃ B2 v2, Own w w' F M [⟨nmA, ys, ys.length, B, v, 0⟩, ⟨nmB, xs, 0, B2, v2, 1⟩] 2 1048576 (decA arm) (decide (arm = 1)) := by
  refine (append_new nmB A n c W F M 1048576 arm _ 1 xs (by simp [nmA, nmB]) (by decide) nmB_full h.at_ (by simp [usedL]; omega) (h.bs hx) hn hA (fits_of (u := ys.length) (by simp [usedL]) (by omega)) (fun ad e => ?_)).mono ?_
  · have := h.new M (by simp [foot])
    exact (hw ad e).imp id fun h => by omega
  · rintro e w' ⟨B2, v2, rfl, hw'⟩
    exact ⟨rfl, B2, v2, h.step hw'⟩
theorem Own.syncB {w W : World} {F M B B2 : Nat} {v v2 : Value} {ys xs : List UInt8} {arm : Int} (ha : arm ≠ 1) (h : Own w W F M [⟨nmA, ys, ys.length, B, v, 0⟩, ⟨nmB, xs, 0, B2, v2, 1⟩] 2 1048576 arm false) :
    Calls Tryz.prog 36 #[.pointer (some ⟨F, 0, none⟩), .string ⟨#[98]⟩] W fun e w' => e = .returned (.int .i64 0) ∧ Own w w' F M [⟨nmA, ys, ys.length, B, v, 0⟩, ⟨nmB, xs, xs.length, B2, v2, 1⟩] 2 1048576 (decA arm) false := by
  refine (sync_ok W F M 1048576 arm [⟨nmA, ys, ys.length, B, v, 0⟩] [] ⟨nmB, xs, 0, B2, v2, 1⟩ 2 ha h.at_).mono ?_
  rintro e w' ⟨rfl, hw'⟩
  exact ⟨rfl, h.step hw'⟩
theorem Own.syncBhit {w W : World} {F M B B2 : Nat} {v v2 : Value} {ys xs : List UInt8} (h : Own w W F M [⟨nmA, ys, ys.length, B, v, 0⟩, ⟨nmB, xs, 0, B2, v2, 1⟩] 2 1048576 1 false) :
    Calls Tryz.prog 36 #[.pointer (some ⟨F, 0, none⟩), .string ⟨#[98]⟩] W fun e w' => e = .returned (.int .i64 13) ∧ Own w w' F M [⟨nmA, ys, ys.length, B, v, 0⟩, ⟨nmB, xs, 0, B2, v2, 1⟩] 2 1048576 (decA 1) true := by
  refine (sync_hit W F M 1048576 [⟨nmA, ys, ys.length, B, v, 0⟩] [] ⟨nmB, xs, 0, B2, v2, 1⟩ 2 h.at_).mono ?_
  rintro e w' ⟨rfl, hw'⟩
  exact ⟨rfl, h.step hw'⟩
theorem Own.renHit {w W : World} {F M B B2 : Nat} {v v2 : Value} {ys xs : List UInt8} (h : Own w W F M [⟨nmA, ys, ys.length, B, v, 0⟩, ⟨nmB, xs, xs.length, B2, v2, 1⟩] 2 1048576 1 false) :
    Calls Tryz.prog 47 #[.pointer (some ⟨F, 0, none⟩), .string ⟨#[98]⟩, .string ⟨#[97]⟩] W fun e w' => e = .returned (.int .i64 13) ∧ Own w w' F M [⟨nmA, ys, ys.length, B, v, 0⟩, ⟨nmB, xs, xs.length, B2, v2, 1⟩] 2 1048576 (decA 1) true := by
  refine (rename_hit W F M 1048576 [⟨nmA, ys, ys.length, B, v, 0⟩] [] ⟨nmB, xs, xs.length, B2, v2, 1⟩ nmA 2 (by decide) nmA_full h.at_).mono ?_
  rintro e w' ⟨rfl, hw'⟩
  exact ⟨rfl, h.step hw'⟩
theorem Own.renOk {w W : World} {F M B B2 : Nat} {v v2 : Value} {ys xs : List UInt8} {arm : Int} (ha : arm ≠ 1) (h : Own w W F M [⟨nmA, ys, ys.length, B, v, 0⟩, ⟨nmB, xs, xs.length, B2, v2, 1⟩] 2 1048576 arm false) :
    Calls Tryz.prog 47 #[.pointer (some ⟨F, 0, none⟩), .string ⟨#[98]⟩, .string ⟨#[97]⟩] W fun e w' => e = .returned (.int .i64 0) ∧ Own w w' F M [⟨nmA, xs, xs.length, B2, v2, 0⟩] 2 1048576 (decA arm) false := by
  refine (rename_over W F M 1048576 arm [⟨nmA, ys, ys.length, B, v, 0⟩] [] [] [] ⟨nmB, xs, xs.length, B2, v2, 1⟩ ⟨nmA, ys, ys.length, B, v, 0⟩ 2 ha (show nmA.size ≤ 140737488355328 by decide) nmA_full rfl h.at_).mono ?_
  rintro e w' ⟨rfl, hw'⟩
  exact ⟨rfl, h.step hw'⟩
/-- What is safe is whole behind a fall. -/
theorem Fell.whole {p q : PF} (h : Fell p q) (hs : p.safe = p.b.length) : q.name = p.name ∧ q.b = p.b ∧ q.safe = q.b.length := by
  obtain ⟨k, h1, h2, h3, h4⟩ := h.some_
  have : k = p.b.length := by omega
  subst this
  have hb : q.b = p.b := by rw [h3]; simp
  exact ⟨h.name, hb, by rw [h4, hb]⟩
end Go.Proofs.YthkncfdgfbnchaaGreatDoor
