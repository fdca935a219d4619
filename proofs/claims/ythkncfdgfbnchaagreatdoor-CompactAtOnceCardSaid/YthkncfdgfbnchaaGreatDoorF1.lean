/-
  courantlaw16.FilesRoom, walked.
-/
import Derived.Test.YthkncfdgfbnchaaGreatDoorE1
import Derived.Deep.Cut
import Derived.ProofKit
import Derived.Below
import Derived.Laws.MakeOwn
import Derived.Laws.OwnMore
set_option linter.unusedVariables false
set_option linter.unusedSimpArgs false
namespace Go.Proofs.YthkncfdgfbnchaaGreatDoor
open Go.RowKit

/-- A slice of integers that came in. -/
def IsRow (k : IntKind) (w : World) (a : Option Addr) (len cap : Nat) (zs : List Int) : Prop :=
  (a = none ∧ len = 0 ∧ cap = 0 ∧ zs = []) ∨
  ∃ x, a = some x ∧ len ≤ cap ∧ cap ≤ maxLen ∧ zs.length = cap ∧ (∀ i, i < zs.length → w.cell? (x.add i) = some (.int k (zs.getD i 0))) ∧ ∀ n ∈ zs, (Lit.int k n).wf = true
def iN : Value → Nat
  | .int _ x => x.toNat
  | _ => 0
theorem modN_r (m x : Int) (hm : 0 < m) (hm2 : m ≤ 1000000) : 0 ≤ wrap64 ((IntKind.u64.wrap x).tmod m) ∧ wrap64 ((IntKind.u64.wrap x).tmod m) < m := by
  have h0 : 0 ≤ IntKind.u64.wrap x := by
    simp only [IntKind.wrap]
    first | exact Int.emod_nonneg _ (by decide) | (split <;> first | omega | (exact Int.emod_nonneg _ (by decide))) | omega
  have h1 := Int.tmod_nonneg m h0
  have h2 := Int.tmod_lt_of_pos (IntKind.u64.wrap x) hm
  have h3 : wrap64 ((IntKind.u64.wrap x).tmod m) = (IntKind.u64.wrap x).tmod m := by
    unfold wrap64
    omega
  rw [h3]
  exact ⟨h1, h2⟩
def mk0 (N : Nat) : List UInt8 := List.replicate N 0
theorem make_run (W : World) (N : Nat) (hN : N < 800) : (Instr.makeSlice 54 (.int .i64 (N : Int)) (.int .i64 (N : Int))).run Tryz.prog W = .ok (.slice (some ⟨W.heap.size, 0, none⟩) N N) (W.alloc (.cells ((mk0 N).map bv).toArray 5)) := by
  obtain ⟨i0, hi, hz0, hz1, hz2⟩ := info_parts infoU8
  have := run_makeSlice (P := Tryz.prog) W 54 5 i0 (.int .u8 0) Tryz.underlying54 hi hz0 .i64 .i64 (N : Int) (N : Int) (by omega) (Int.le_refl _) (by rw [hz1]; simp; omega) (by rw [hz2]; omega) (by omega)
  rw [this]
  have e : madeCells (Value.int .u8 0).cells ((N : Int).toNat * i0.size) = ((mk0 N).map bv).toArray := by
    apply Array.ext'
    rw [hz1, show (Value.int .u8 0).cells = #[.int .u8 0] from rfl, toList_madeCells_one]
    simp [mk0, bv]
  rw [e]
  simp
theorem mk0_len (N : Nat) : (mk0 N).length = N := by simp [mk0]
theorem used_room {w W : World} {F M : Nat} {ps : List PF} {clock : Nat} {lim : Int} {ys : List UInt8} {m : Bool} (V : Int) (h : Room w W F M ps clock lim) (ho : One ps ys m) (hV : (ys.length : Int) = V) (hu : V ≤ 1000000000) :
    Calls Tryz.prog 60 #[.pointer (some ⟨F, 0, none⟩)] W fun e w' => e = .returned (.int .i64 V) ∧ Room w w' F M ps clock lim := by
  subst hV
  exact (used_one W ps clock lim F M ys m h.at_ ho (by omega)).mono fun e w' ⟨he, hk⟩ => ⟨he, h.stay hk⟩
end Go.Proofs.YthkncfdgfbnchaaGreatDoor
