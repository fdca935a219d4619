import Derived.Test.YtefpigakhhfcaaaDoorMah
/-! Append of whatever slice, nil or not. -/
section
set_option linter.unusedVariables false
set_option linter.unusedSimpArgs false
namespace Go.Proofs.YtefpigakhhfcaaaDoor
open Go.RowKit

theorem append_old (A : Option Addr) (n c : Nat) (w : World) (F M : Nat) (lim arm : Int) (l1 l2 : List PF) (p : PF) (clock : Nat) (xs : List UInt8) (hs : p.name.size ≤ 140737488355328) (hf : fullB p.name = true) (h : FilesAt w F M (l1 ++ p :: l2) clock lim arm false)
    (hu : usedL (l1 ++ p :: l2) ≤ 4194304) (hx : Bs w A xs) (hn : n = xs.length) (hA : A = none → c = 0) (hfit : Fits lim (l1 ++ p :: l2) n) :
    Calls Tryd.prog 34 #[.pointer (some ⟨F, 0, none⟩), .string p.name, .slice A n c] w fun e w' => ∃ v, Gone (hitE arm) w F M (l1 ++ p :: l2) (l1 ++ { p with b := p.b ++ xs, val := v } :: l2) clock lim (decA arm) (decide (arm = 1)) e w' := by
  cases A with
  | some ad => exact append_old_some ad n c w F M lim arm l1 l2 p clock xs hs hf h hu hx hn hfit
  | none =>
    have h1 := hx.1 rfl
    have h2 := hA rfl
    subst h1; subst h2
    simp only [List.length_nil] at hn
    subst hn
    exact append_old_none w F M lim arm l1 l2 p clock hs hf h hu
theorem append_new (s : ByteArray) (A : Option Addr) (n c : Nat) (w : World) (F M : Nat) (lim arm : Int) (ps : List PF) (clock : Nat) (xs : List UInt8) (hno : ∀ q ∈ ps, q.name ≠ s) (hs : s.size ≤ 140737488355328) (hf : fullB s = true) (h : FilesAt w F M ps clock lim arm false)
    (hu : usedL ps ≤ 4194304) (hx : Bs w A xs) (hn : n = xs.length) (hA : A = none → c = 0) (hfit : Fits lim ps n) (hM : ∀ ad, A = some ad → xs = [] ∨ ad.block ≠ M) :
    Calls Tryd.prog 34 #[.pointer (some ⟨F, 0, none⟩), .string s, .slice A n c] w fun e w' => ∃ B v, Gone (hitE arm) w F M ps (ps ++ [⟨s, xs, 0, B, v, clock⟩]) (clock + 1) lim (decA arm) (decide (arm = 1)) e w' := by
  cases A with
  | some ad => exact append_new_some s ad n c w F M lim arm ps clock xs hno hs hf h hu hx hn hfit (hM ad rfl)
  | none =>
    have h1 := hx.1 rfl
    have h2 := hA rfl
    subst h1; subst h2
    simp only [List.length_nil] at hn
    subst hn
    exact append_new_none s w F M lim arm ps clock hno hs hf h hu
end Go.Proofs.YtefpigakhhfcaaaDoor
end
