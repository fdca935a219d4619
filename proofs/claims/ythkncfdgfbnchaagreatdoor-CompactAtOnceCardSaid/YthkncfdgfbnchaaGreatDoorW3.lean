/-
  courantlaw16.FilesSwap, walked.
-/
import Derived.Test.YthkncfdgfbnchaaGreatDoorW2
set_option linter.unusedVariables false
set_option linter.unusedSimpArgs false
namespace Go.Proofs.YthkncfdgfbnchaaGreatDoor
open Go.RowKit

theorem all2_one {p : PF} {qs : List PF} (h : All2 Fell [p] qs) : ∃ q, qs = [q] ∧ Fell p q := by
  obtain ⟨h1, h2⟩ := h
  match qs, h1 with
  | [q], _ => exact ⟨q, rfl, h2 0 p q rfl rfl⟩
theorem all2_two {p r : PF} {qs : List PF} (h : All2 Fell [p, r] qs) : ∃ q s, qs = [q, s] ∧ Fell p q ∧ Fell r s := by
  obtain ⟨h1, h2⟩ := h
  match qs, h1 with
  | [q, s], _ => exact ⟨q, s, rfl, h2 0 p q rfl rfl, h2 1 r s rfl rfl⟩
theorem Own.readA {w W : World} {F M clock : Nat} {l2 : List PF} {q : PF} {ys : List UInt8} (h : Own w W F M (q :: l2) clock 1048576 0 false) (hn : q.name = nmA) (hb : q.b = ys) :
    Calls Tryz.prog 28 #[.pointer (some ⟨F, 0, none⟩), .string ⟨#[97]⟩] W fun e w' => ∃ A c, e = .returned (.tuple #[.slice A ys.length c, .int .i64 0]) ∧ Bs w' A ys ∧ Own w w' F M (q :: l2) clock 1048576 0 false := by
  have := read_some W F M 1048576 0 [] l2 q clock h.at_
  rw [hn, hb] at this
  refine this.mono ?_
  rintro e w' ⟨v, rfl, hown, hk⟩
  obtain ⟨A, c, rfl, _, hbs, _⟩ := Bs.of_own hown
  exact ⟨A, c, rfl, hbs, h.stay hk⟩
theorem Own.readB {w W : World} {F M clock : Nat} {q : PF} (h : Own w W F M [q] clock 1048576 0 false) (hn : q.name = nmA) :
    Calls Tryz.prog 28 #[.pointer (some ⟨F, 0, none⟩), .string ⟨#[98]⟩] W fun e w' => ∃ A n c, e = .returned (.tuple #[.slice A n c, .int .i64 8]) ∧ Kept (fun _ => False) W w' ∧ Own w w' F M [q] clock 1048576 0 false := by
  refine (read_none nmB W F M 1048576 0 [q] clock h.at_ (by simp [hn, nmA, nmB])).mono ?_
  rintro e w' ⟨v, rfl, hown, hk⟩
  obtain ⟨A, c, rfl, _⟩ := Bs.of_own hown
  exact ⟨A, _, c, rfl, hk, h.stay hk⟩
theorem nms {p q : PF} (hp : p.name = nmA) (hq : q.name = nmB) : ∀ r ∈ [p, q], r.name.size ≤ 1000000 := by
  intro r hr
  simp only [List.mem_cons, List.not_mem_nil, or_false] at hr
  rcases hr with rfl | rfl
  · rw [hp]; decide
  · rw [hq]; decide
theorem nms1 {p : PF} (hp : p.name = nmA) : ∀ r ∈ [p], r.name.size ≤ 1000000 := by
  intro r hr
  simp only [List.mem_cons, List.not_mem_nil, or_false] at hr
  subst hr; rw [hp]; decide
end Go.Proofs.YthkncfdgfbnchaaGreatDoor
