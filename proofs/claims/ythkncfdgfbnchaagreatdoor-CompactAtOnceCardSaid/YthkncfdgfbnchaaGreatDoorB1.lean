/-
  couranthelp.Bytes: two slices of bytes hold the same.
-/
import Derived.Test.YthkncfdgfbnchaaGreatDoorR
import Derived.Test.YthkncfdgfbnchaaGreatDoorN
import Derived.Laws.IdiomStrings
import Derived.Laws.BytesString
set_option linter.unusedVariables false
set_option linter.unusedSimpArgs false
namespace Go.Proofs.YthkncfdgfbnchaaGreatDoor
open Go.RowKit

theorem conv_run (w : World) (A : Option Addr) (n c : Nat) (xs : List UInt8) (hn : n = xs.length) (h : Bs w A xs) : (convert 54 9 (.slice A n c)).run Tryz.prog w = .ok (.string ⟨xs.toArray⟩) w := by
  subst hn
  cases A with
  | none =>
    have := h.1 rfl
    subst this
    rw [run_convert_bytes_string w 54 9 5 none _ c Tryz.underlying54 Tryz.underlying5 Tryz.underlying9]
    rfl
  | some ad =>
    refine run_convert_bytes_back w 54 9 5 ad c xs Tryz.underlying54 Tryz.underlying5 Tryz.underlying9 ?_
    intro j hj
    have := h.2 ad rfl j (bv xs[j]) (by simp [hj])
    simpa [bv] using this
set_option maxHeartbeats 1000000 in
theorem bytes_any (w : World) (A B : Option Addr) (n c m d : Nat) (xs ys : List UInt8) (hn : n = xs.length) (hm : m = ys.length) (hx : Bs w A xs) (hy : Bs w B ys) :
    Calls Tryz.prog 65 #[.slice A n c, .slice B m d] w fun e w' => e = .returned (.bool (decide (xs = ys))) ∧ w = w' := by
  have h1 := conv_run w A n c xs hn hx
  have h2 := conv_run w B m d ys hm hy
  have HE : Hid ((xs == ys) = decide (xs = ys)) := Lib.hid (by rw [Bool.eq_iff_iff]; simp)
  clear hn hm hx hy
  go_enter Tryz.func65, Tryz.ntmps65
  go_wp2
  go_ret
  exact ⟨ret_bool HE.out, rfl⟩
end Go.Proofs.YthkncfdgfbnchaaGreatDoor
