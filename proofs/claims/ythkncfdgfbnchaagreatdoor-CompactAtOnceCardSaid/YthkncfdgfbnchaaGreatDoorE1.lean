/-
  One file "a" alone: appended to, cut, read; courantlaw16.awake.
-/
import Derived.Test.YthkncfdgfbnchaaGreatDoorD7
import Derived.Test.YthkncfdgfbnchaaGreatDoorT1
import Derived.Test.YthkncfdgfbnchaaGreatDoorT2
set_option linter.unusedVariables false
set_option linter.unusedSimpArgs false
namespace Go.Proofs.YthkncfdgfbnchaaGreatDoor
open Go.RowKit

def nmA : ByteArray := ⟨#[97]⟩
theorem nmA_full : fullB nmA = true := by kernel_rfl
/-- No file, or the file "a" alone, so long. -/
def One (ps : List PF) (xs : List UInt8) (made : Bool) : Prop := (ps = [] ∧ xs = [] ∧ made = false) ∨ ∃ p, ps = [p] ∧ p.name = nmA ∧ p.b = xs ∧ made = true
theorem One.used {ps : List PF} {xs : List UInt8} {m : Bool} (h : One ps xs m) : usedL ps = xs.length := by
  rcases h with ⟨rfl, rfl, _⟩ | ⟨p, rfl, _, rfl, _⟩ <;> simp [usedL]
structure Room (w W : World) (F M : Nat) (ps : List PF) (clock : Nat) (lim : Int) : Prop where
  at_ : FilesAt W F M ps clock lim 0 false
  new : ∀ k ∈ foot F M ps, w.heap.size ≤ k
  kept : Kept (fun _ => False) w W
variable {w W W' : World} {F M : Nat} {ps ps' : List PF} {clock clock' : Nat} {lim : Int}
theorem Room.step (h : Room w W F M ps clock lim) (k : Went W F M ps ps' clock' lim 0 false W') : Room w W' F M ps' clock' lim :=
  ⟨k.at_, fun i hi => (k.feet i hi).elim (h.new i) fun hi => Nat.le_trans h.kept.size hi, h.kept.trans k.kept fun i hi hm => by have := h.new i hm; omega⟩
theorem Room.stay (h : Room w W F M ps clock lim) (k : Kept (fun _ => False) W W') : Room w W' F M ps clock lim := ⟨h.at_.kept k (by simp), h.new, h.kept.trans' k⟩
theorem append_one (W : World) (ps : List PF) (clock : Nat) (lim : Int) (F M n c : Nat) (ad : Addr) (ys xs : List UInt8) (m : Bool) (h : FilesAt W F M ps clock lim 0 false) (ho : One ps ys m) (hx : Bs W (some ad) xs) (hn : n = xs.length)
    (hM : ad.block ≠ M) (hfit : n = 0 ∨ (n : Int) + (ys.length : Int) ≤ lim) (hu : ys.length ≤ 4194304) :
    Calls Tryz.prog 35 #[.pointer (some ⟨F, 0, none⟩), .string nmA, .slice (some ad) n c] W fun e w' => ∃ ps' clock', e = .returned (.int .i64 0) ∧ Went W F M ps ps' clock' lim 0 false w' ∧ One ps' (ys ++ xs) true := by
  have hu' := ho.used
  rcases ho with ⟨rfl, rfl, _⟩ | ⟨p, rfl, hp, rfl, _⟩
  · refine (append_new_some nmA ad n c W F M lim 0 [] clock xs (by simp) (by decide) nmA_full h (by rw [hu']; exact hu) hx hn (by unfold Fits; rw [hu']; exact hfit) (.inr hM)).mono ?_
    rintro e w' ⟨B, v, rfl, hw⟩
    exact ⟨_, _, rfl, hw, .inr ⟨_, rfl, rfl, by simp, rfl⟩⟩
  · have := append_old_some ad n c W F M lim 0 [] [] p clock xs (by rw [hp]; decide) (by rw [hp]; exact nmA_full) h (by simpa using hu'.symm ▸ hu) hx hn (by unfold Fits; simpa [hu'] using hfit)
    rw [hp] at this
    refine this.mono ?_
    rintro e w' ⟨v, rfl, hw⟩
    exact ⟨_, _, rfl, hw, .inr ⟨_, rfl, rfl, rfl, rfl⟩⟩
theorem trunc_one (W : World) (ps : List PF) (clock : Nat) (lim : Int) (F M n : Nat) (ys : List UInt8) (h : FilesAt W F M ps clock lim 0 false) (ho : One ps ys true) (hn : n ≤ ys.length) :
    Calls Tryz.prog 30 #[.pointer (some ⟨F, 0, none⟩), .string nmA, .int .i64 n] W fun e w' => ∃ ps' clock', e = .returned (.int .i64 0) ∧ Went W F M ps ps' clock' lim 0 false w' ∧ One ps' (ys.take n) true := by
  rcases ho with ⟨_, _, h0⟩ | ⟨p, rfl, hp, rfl, _⟩
  · cases h0
  · rcases Nat.lt_or_ge n p.safe with h1 | h1
    · have := trunc_lt W F M lim 0 [] [] p clock n hn h1 (by decide) h
      rw [hp] at this
      refine this.mono ?_
      rintro e w' ⟨v, rfl, hw⟩
      exact ⟨_, _, rfl, hw, .inr ⟨_, rfl, rfl, rfl, rfl⟩⟩
    · have := trunc_ge W F M lim 0 [] [] p clock n hn (by omega) (by decide) h
      rw [hp] at this
      refine this.mono ?_
      rintro e w' ⟨v, rfl, hw⟩
      exact ⟨_, _, rfl, hw, .inr ⟨_, rfl, rfl, rfl, rfl⟩⟩
theorem read_one (W : World) (ps : List PF) (clock : Nat) (lim : Int) (F M : Nat) (ys : List UInt8) (h : FilesAt W F M ps clock lim 0 false) (ho : One ps ys true) :
    Calls Tryz.prog 28 #[.pointer (some ⟨F, 0, none⟩), .string nmA] W fun e w' => ∃ A c, e = .returned (.tuple #[.slice A ys.length c, .int .i64 0]) ∧ Kept (fun _ => False) W w' := by
  rcases ho with ⟨_, _, h0⟩ | ⟨p, rfl, hp, rfl, _⟩
  · cases h0
  · have := read_some W F M lim 0 [] [] p clock h
    rw [hp] at this
    refine this.mono ?_
    rintro e w' ⟨v, rfl, hown, hk⟩
    obtain ⟨A, c, rfl, _⟩ := Bs.of_own hown
    exact ⟨A, c, rfl, hk⟩
theorem used_one (W : World) (ps : List PF) (clock : Nat) (lim : Int) (F M : Nat) (ys : List UInt8) (m : Bool) (h : FilesAt W F M ps clock lim 0 false) (ho : One ps ys m) (hu : ys.length ≤ 1000000000) :
    Calls Tryz.prog 60 #[.pointer (some ⟨F, 0, none⟩)] W fun e w' => e = .returned (.int .i64 (ys.length : Nat)) ∧ Kept (fun _ => False) W w' := by
  have hu' := ho.used
  have := used_any W F M lim 0 false ps clock h (by rw [hu']; exact hu)
  rwa [hu'] at this

/-! ### awake -/
theorem new_room (w : World) (n : Int) : Calls Tryz.prog 5 #[.int .i64 n] w fun e w' => ∃ F M, e = .returned (.pointer (some ⟨F, 0, none⟩)) ∧ Room w w' F M [] 0 (boundI n) :=
  (new_any w n).mono fun e w' ⟨F, M, he, hf, hk, h1, h2⟩ => ⟨F, M, he, hf, fun k hk' => by simp only [foot, List.flatMap_nil, List.mem_cons, List.not_mem_nil, or_false] at hk'; rcases hk' with rfl | rfl <;> assumption, hk⟩
def three : List UInt8 := [1, 2, 3]
theorem Room.ne {w W : World} {F M : Nat} {ps : List PF} {clock : Nat} {lim : Int} (h : Room w W F M ps clock lim) : W.heap.size ≠ M := by
  have := h.at_.lt M (by simp [foot]); omega
theorem bs_new (W : World) (xs : List UInt8) (cs : Array Value) (h : cs = (xs.map bv).toArray) (t : TypeId) : Bs (W.alloc (.cells cs t)) (some ⟨W.heap.size, 0, none⟩) xs := by
  refine ⟨fun e => (by cases e), fun ad e j u hu => ?_⟩
  cases e
  have hh := heap_alloc_new W (.cells cs t)
  subst h
  have e1 : (⟨W.heap.size, 0, none⟩ : Addr).add j = ⟨W.heap.size, j, none⟩ := by unfold Addr.add; split <;> simp_all
  rw [e1]
  simp only [World.cell?, hh]
  simpa using hu
def AppPost (w : World) (F M : Nat) (lim : Int) (zs : List UInt8) (e : Ending) (w' : World) : Prop :=
  ∃ ps' clock', e = .returned (.int .i64 0) ∧ Room w w' F M ps' clock' lim ∧ One ps' zs true
theorem append_room {w W : World} {F M : Nat} {ps : List PF} {clock : Nat} {lim : Int} (n c : Nat) (ad : Addr) (ys xs : List UInt8) (m : Bool) (h : Room w W F M ps clock lim) (ho : One ps ys m) (hx : Bs W (some ad) xs) (hn : n = xs.length)
    (hM : ad.block ≠ M) (hfit : n = 0 ∨ (n : Int) + (ys.length : Int) ≤ lim) (hu : ys.length ≤ 4194304) :
    Calls Tryz.prog 35 #[.pointer (some ⟨F, 0, none⟩), .string ⟨#[97]⟩, .slice (some ad) n c] W (AppPost w F M lim (ys ++ xs)) :=
  (append_one W ps clock lim F M n c ad ys xs m h.at_ ho hx hn hM hfit hu).mono fun e w' ⟨ps', clock', he, hw, ho'⟩ => ⟨ps', clock', he, h.step hw, ho'⟩
theorem three_new (W : World) : Bs (W.alloc (.cells #[.int .u8 1, .int .u8 2, .int .u8 3] 5)) (some ⟨W.heap.size, 0, none⟩) three := bs_new W three _ (by rfl) 5
end Go.Proofs.YthkncfdgfbnchaaGreatDoor
