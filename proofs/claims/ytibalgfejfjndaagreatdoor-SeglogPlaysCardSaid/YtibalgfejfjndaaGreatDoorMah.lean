import Derived.Test.YtibalgfejfjndaaGreatDoorMaf
import Derived.Deep.Cut
import Derived.ProofKit
import Derived.Below
import Derived.Laws.MakeOwn
import Derived.Laws.OwnMore
import Derived.Test.YtibalgfejfjndaaGreatDoorMag
import Derived.Test.YtibalgfejfjndaaGreatDoorMab
import Derived.Deep.QuietTactic
import Derived.BigQuiet
import Derived.Sort.Walk0
import Derived.Deep.AppendLies
import Derived.Deep.RegionHeld3
import Derived.Deep.RegionLaw
import Derived.WalkSpells
import Derived.WalkMore
import Derived.Laws.CopyRow
import Derived.Lib.Overlaps
import Derived.Lib.AppendZeros
/-! courantlaw16.FilesRoom, walked. -/
section
set_option linter.unusedVariables false
set_option linter.unusedSimpArgs false
namespace Go.Proofs.YtibalgfejfjndaaGreatDoor
open Go.RowKit

/-- A slice of integers that came in. -/
def IsRow (k : IntKind) (w : World) (a : Option Addr) (len cap : Nat) (zs : List Int) : Prop :=
  (a = none ∧ len = 0 ∧ cap = 0 ∧ zs = []) ∨
  ∃ x, a = some x ∧ len ≤ cap ∧ cap ≤ maxLen ∧ zs.length = cap ∧ (∀ i, i < zs.length → w.cell? (x.add i) = some (.int k (zs.getD i 0))) ∧ ∀ n ∈ zs, (Lit.int k n).wf = true
def iN : Value → Nat
  | .int _ x => x.toNat
  | _ => 0
theorem modN_r (m x : Int) (hm : 0 < m) (hm2 : m ≤ 1000000) : 0 ≤ wrap64 ((IntKind.u64.wrap x).tmod m) ∧ wrap64 ((IntKind.u64.wrap x).tmod m) < m := by
  have h0 : 0 ≤ IntKind.u64.wrap x := by
    simp only [IntKind.wrap]
    first | exact Int.emod_nonneg _ (by decide) | (split <;> first | omega | (exact Int.emod_nonneg _ (by decide))) | omega
  have h1 := Int.tmod_nonneg m h0
  have h2 := Int.tmod_lt_of_pos (IntKind.u64.wrap x) hm
  have h3 : wrap64 ((IntKind.u64.wrap x).tmod m) = (IntKind.u64.wrap x).tmod m := by
    unfold wrap64
    omega
  rw [h3]
  exact ⟨h1, h2⟩
def mk0 (N : Nat) : List UInt8 := List.replicate N 0
theorem make_run (W : World) (N : Nat) (hN : N < 800) : (Instr.makeSlice 30 (.int .i64 (N : Int)) (.int .i64 (N : Int))).run Tryz.prog W = .ok (.slice (some ⟨W.heap.size, 0, none⟩) N N) (W.alloc (.cells ((mk0 N).map bv).toArray 5)) := by
  obtain ⟨i0, hi, hz0, hz1, hz2⟩ := info_parts infoU8
  have := run_makeSlice (P := Tryz.prog) W 30 5 i0 (.int .u8 0) Tryz.underlying30 hi hz0 .i64 .i64 (N : Int) (N : Int) (by omega) (Int.le_refl _) (by rw [hz1]; simp; omega) (by rw [hz2]; omega) (by omega)
  rw [this]
  have e : madeCells (Value.int .u8 0).cells ((N : Int).toNat * i0.size) = ((mk0 N).map bv).toArray := by
    apply Array.ext'
    rw [hz1, show (Value.int .u8 0).cells = #[.int .u8 0] from rfl, toList_madeCells_one]
    simp [mk0, bv]
  rw [e]
  simp
theorem mk0_len (N : Nat) : (mk0 N).length = N := by simp [mk0]
theorem used_room {w W : World} {F M : Nat} {ps : List PF} {clock : Nat} {lim : Int} {ys : List UInt8} {m : Bool} (V : Int) (h : Room w W F M ps clock lim) (ho : One ps ys m) (hV : (ys.length : Int) = V) (hu : V ≤ 1000000000) :
    Calls Tryz.prog 69 #[.pointer (some ⟨F, 0, none⟩)] W fun e w' => e = .returned (.int .i64 V) ∧ Room w w' F M ps clock lim := by
  subst hV
  exact (used_one W ps clock lim F M ys m h.at_ ho (by omega)).mono fun e w' ⟨he, hk⟩ => ⟨he, h.stay hk⟩
end Go.Proofs.YtibalgfejfjndaaGreatDoor
end

/-! courantlaw16.FilesSwap, walked: states. -/
section
set_option linter.unusedVariables false
set_option linter.unusedSimpArgs false
namespace Go.Proofs.YtibalgfejfjndaaGreatDoor
open Go.RowKit

theorem fits_of {lim : Int} {ps : List PF} {n u : Nat} (hu : usedL ps = u) (h : (n : Int) + (u : Int) ≤ lim) : Fits lim ps n := .inr (by rw [hu]; exact h)
/-- Append "a", the first file. -/
theorem Own.appA {w W : World} {F M : Nat} (h : Own w W F M [] 0 1048576 0 false) {A : Option Addr} {n c : Nat} {xs : List UInt8} (hx : Bs w A xs) (hn : n = xs.length) (hA : A = none → c = 0) (hl : n ≤ 5000) (hw : ∀ ad, A = some ad → xs = [] ∨ ad.block < w.heap.size) :
    Calls Tryz.prog 46 #[.pointer (some ⟨F, 0, none⟩), .string ⟨#[97]⟩, .slice A n c] W fun e w' => e = .returned (.int .i64 0) ∧ ∃ B v, Own w w' F M [⟨nmA, xs, 0, B, v, 0⟩] 1 1048576 0 false := by
  refine (append_new nmA A n c W F M 1048576 0 [] 0 xs (by simp) (by decide) nmA_full h.at_ (by simp [usedL]) (h.bs hx) hn hA (fits_of (u := 0) rfl (by omega)) (fun ad e => ?_)).mono ?_
  · have := h.new M (by simp [foot])
    exact (hw ad e).imp id fun h => by omega
  · rintro e w' ⟨B, v, rfl, hw'⟩
    exact ⟨rfl, B, v, h.step hw'⟩
theorem Own.syncA {w W : World} {F M B : Nat} {v : Value} {xs : List UInt8} (h : Own w W F M [⟨nmA, xs, 0, B, v, 0⟩] 1 1048576 0 false) :
    Calls Tryz.prog 50 #[.pointer (some ⟨F, 0, none⟩), .string ⟨#[97]⟩] W fun e w' => e = .returned (.int .i64 0) ∧ Own w w' F M [⟨nmA, xs, xs.length, B, v, 0⟩] 1 1048576 0 false := by
  refine (sync_ok W F M 1048576 0 [] [] ⟨nmA, xs, 0, B, v, 0⟩ 1 (by decide) h.at_).mono ?_
  rintro e w' ⟨rfl, hw'⟩
  exact ⟨rfl, h.step hw'⟩
/-- Append "b" beside a synced "a", at whatever arm. -/
theorem Own.appB {w W : World} {F M B : Nat} {v : Value} {ys : List UInt8} {arm : Int} (h : Own w W F M [⟨nmA, ys, ys.length, B, v, 0⟩] 1 1048576 arm false) {A : Option Addr} {n c : Nat} {xs : List UInt8} (hx : Bs w A xs) (hn : n = xs.length) (hA : A = none → c = 0) (hl : n ≤ 5000) (hy : ys.length ≤ 5000)
    (hw : ∀ ad, A = some ad → xs = [] ∨ ad.block < w.heap.size) :
    Calls Tryz.prog 46 #[.pointer (some ⟨F, 0, none⟩), .string ⟨#[98]⟩, .slice A n c] W fun e w' => e = .returned (.int .i64 (hitE arm)) ∧ ∃ B2 v2, Own w w' F M [⟨nmA, ys, ys.length, B, v, 0⟩, ⟨nmB, xs, 0, B2, v2, 1⟩] 2 1048576 (decA arm) (decide (arm = 1)) := by
  refine (append_new nmB A n c W F M 1048576 arm _ 1 xs (by simp [nmA, nmB]) (by decide) nmB_full h.at_ (by simp [usedL]; omega) (h.bs hx) hn hA (fits_of (u := ys.length) (by simp [usedL]) (by omega)) (fun ad e => ?_)).mono ?_
  · have := h.new M (by simp [foot])
    exact (hw ad e).imp id fun h => by omega
  · rintro e w' ⟨B2, v2, rfl, hw'⟩
    exact ⟨rfl, B2, v2, h.step hw'⟩
theorem Own.syncB {w W : World} {F M B B2 : Nat} {v v2 : Value} {ys xs : List UInt8} {arm : Int} (ha : arm ≠ 1) (h : Own w W F M [⟨nmA, ys, ys.length, B, v, 0⟩, ⟨nmB, xs, 0, B2, v2, 1⟩] 2 1048576 arm false) :
    Calls Tryz.prog 50 #[.pointer (some ⟨F, 0, none⟩), .string ⟨#[98]⟩] W fun e w' => e = .returned (.int .i64 0) ∧ Own w w' F M [⟨nmA, ys, ys.length, B, v, 0⟩, ⟨nmB, xs, xs.length, B2, v2, 1⟩] 2 1048576 (decA arm) false := by
  refine (sync_ok W F M 1048576 arm [⟨nmA, ys, ys.length, B, v, 0⟩] [] ⟨nmB, xs, 0, B2, v2, 1⟩ 2 ha h.at_).mono ?_
  rintro e w' ⟨rfl, hw'⟩
  exact ⟨rfl, h.step hw'⟩
theorem Own.syncBhit {w W : World} {F M B B2 : Nat} {v v2 : Value} {ys xs : List UInt8} (h : Own w W F M [⟨nmA, ys, ys.length, B, v, 0⟩, ⟨nmB, xs, 0, B2, v2, 1⟩] 2 1048576 1 false) :
    Calls Tryz.prog 50 #[.pointer (some ⟨F, 0, none⟩), .string ⟨#[98]⟩] W fun e w' => e = .returned (.int .i64 13) ∧ Own w w' F M [⟨nmA, ys, ys.length, B, v, 0⟩, ⟨nmB, xs, 0, B2, v2, 1⟩] 2 1048576 (decA 1) true := by
  refine (sync_hit W F M 1048576 [⟨nmA, ys, ys.length, B, v, 0⟩] [] ⟨nmB, xs, 0, B2, v2, 1⟩ 2 h.at_).mono ?_
  rintro e w' ⟨rfl, hw'⟩
  exact ⟨rfl, h.step hw'⟩
/-- What is safe is whole behind a fall. -/
theorem Fell.whole {p q : PF} (h : Fell p q) (hs : p.safe = p.b.length) : q.name = p.name ∧ q.b = p.b ∧ q.safe = q.b.length := by
  obtain ⟨k, h1, h2, h3, h4⟩ := h.some_
  have : k = p.b.length := by omega
  subst this
  have hb : q.b = p.b := by rw [h3]; simp
  exact ⟨h.name, hb, by rw [h4, hb]⟩
end Go.Proofs.YtibalgfejfjndaaGreatDoor
end

/-! courantlaw16.FilesSwap, walked. -/
section
set_option linter.unusedVariables false
set_option linter.unusedSimpArgs false
namespace Go.Proofs.YtibalgfejfjndaaGreatDoor
open Go.RowKit

theorem all2_one {p : PF} {qs : List PF} (h : All2 Fell [p] qs) : ∃ q, qs = [q] ∧ Fell p q := by
  obtain ⟨h1, h2⟩ := h
  match qs, h1 with
  | [q], _ => exact ⟨q, rfl, h2 0 p q rfl rfl⟩
theorem all2_two {p r : PF} {qs : List PF} (h : All2 Fell [p, r] qs) : ∃ q s, qs = [q, s] ∧ Fell p q ∧ Fell r s := by
  obtain ⟨h1, h2⟩ := h
  match qs, h1 with
  | [q, s], _ => exact ⟨q, s, rfl, h2 0 p q rfl rfl, h2 1 r s rfl rfl⟩
theorem Own.readA {w W : World} {F M clock : Nat} {l2 : List PF} {q : PF} {ys : List UInt8} (h : Own w W F M (q :: l2) clock 1048576 0 false) (hn : q.name = nmA) (hb : q.b = ys) :
    Calls Tryz.prog 13 #[.pointer (some ⟨F, 0, none⟩), .string ⟨#[97]⟩] W fun e w' => ∃ A c, e = .returned (.tuple #[.slice A ys.length c, .int .i64 0]) ∧ Bs w' A ys ∧ Own w w' F M (q :: l2) clock 1048576 0 false := by
  have := read_some W F M 1048576 0 [] l2 q clock h.at_
  rw [hn, hb] at this
  refine this.mono ?_
  rintro e w' ⟨v, rfl, hown, hk⟩
  obtain ⟨A, c, rfl, _, hbs, _⟩ := Bs.of_own hown
  exact ⟨A, c, rfl, hbs, h.stay hk⟩
theorem Own.readB {w W : World} {F M clock : Nat} {q : PF} (h : Own w W F M [q] clock 1048576 0 false) (hn : q.name = nmA) :
    Calls Tryz.prog 13 #[.pointer (some ⟨F, 0, none⟩), .string ⟨#[98]⟩] W fun e w' => ∃ A n c, e = .returned (.tuple #[.slice A n c, .int .i64 8]) ∧ Kept (fun _ => False) W w' ∧ Own w w' F M [q] clock 1048576 0 false := by
  refine (read_none nmB W F M 1048576 0 [q] clock h.at_ (by simp [hn, nmA, nmB])).mono ?_
  rintro e w' ⟨v, rfl, hown, hk⟩
  obtain ⟨A, c, rfl, _⟩ := Bs.of_own hown
  exact ⟨A, _, c, rfl, hk, h.stay hk⟩
theorem nms {p q : PF} (hp : p.name = nmA) (hq : q.name = nmB) : ∀ r ∈ [p, q], r.name.size ≤ 1000000 := by
  intro r hr
  simp only [List.mem_cons, List.not_mem_nil, or_false] at hr
  rcases hr with rfl | rfl
  · rw [hp]; decide
  · rw [hq]; decide
theorem nms1 {p : PF} (hp : p.name = nmA) : ∀ r ∈ [p], r.name.size ≤ 1000000 := by
  intro r hr
  simp only [List.mem_cons, List.not_mem_nil, or_false] at hr
  subst hr; rw [hp]; decide
end Go.Proofs.YtibalgfejfjndaaGreatDoor
end

/-! courantlaw16.FilesSafe: states, bytes of their own, what is appended to them. -/
section
set_option linter.unusedVariables false
set_option linter.unusedSimpArgs false
namespace Go.Proofs.YtibalgfejfjndaaGreatDoor
open Go.RowKit

/-- append(s, xs...) onto bytes of the call's own, xs nil or not. -/
theorem wpList_append_bs {w : World} {ops : Array Oper} {rest : List Oper} {o : Oper} {a : Act} {Q : Exit → Act → World → Prop} (hgd : o.guard = none) (s x : Operand)
    (ho : o.op = .call { callee := .builtin .append, args := #[s, x], argTypes := #[30, 30] })
    (base : Nat) (v : Value) (n : Nat) (ys : List Value) (hs : a.eval s = v) (hown : w.ownsRow base 5 1 v n ys)
    (A : Option Addr) (m c : Nat) (xs : List UInt8) (hx : a.eval x = .slice A m c) (hB : Bs w A xs) (hm : m = xs.length) (hA : A = none → c = 0)
    (h63 : n + m ≤ 1000000000) (hbase : base ≤ w.heap.size)
    (h : ∀ v' w', w'.ownsRow base 5 1 v' (n + m) (ys ++ xs.map bv) → w.grownBy w' v.ownBlock → wpList Tryz.prog ops Q rest (a.put o.dst v') w') : wpList Tryz.prog ops Q (o :: rest) a w := by
  obtain ⟨i0, hi, hz0, hz1, hz2⟩ := info_parts infoU8
  cases A with
  | none =>
    have h1 := hB.1 rfl
    have h2 := hA rfl
    subst h1; subst h2
    simp only [List.length_nil] at hm
    subst hm
    refine wpList_append_own_none hgd s x 30 ho base 5 i0 1 Tryz.underlying30 hi v n ys hs hown hx ?_
    exact h v w (by simpa using hown) ⟨rfl, rfl, rfl, Nat.le_refl _, fun _ _ _ => rfl⟩
  | some ad =>
    refine wpList_append_own w hgd s x 30 ho base 5 i0 (.int .u8 0) 1 1 Tryz.underlying30 hi hz0 hz1 hz2 rfl (by decide) v n ys hs hown ad m c (xs.map bv) hx ?_ ?_ (bv_one xs) ?_ ?_ hbase ?_
    · rw [List.length_map, hm, Nat.mul_one]
    · exact hB.2 ad rfl
    · unfold maxLen; omega
    · omega
    · intro v' w' h2 h3 _
      exact h v' w' h2 h3
/-- Files with "a" (first bytes safe) alone; with "b" beside. -/
abbrev fa (zs : List UInt8) (s B : Nat) (v : Value) : PF := ⟨nmA, zs, s, B, v, 0⟩
abbrev fb (zs : List UInt8) (B : Nat) (v : Value) : PF := ⟨nmB, zs, 0, B, v, 1⟩
theorem Own.appLate {w W : World} {F M B s clock : Nat} {v : Value} {ys : List UInt8} {l2 : List PF} {arm : Int} (h : Own w W F M (fa ys s B v :: l2) clock 1048576 arm false) {A : Option Addr} {n c : Nat} {xs : List UInt8} (hx : Bs w A xs) (hn : n = xs.length) (hA : A = none → c = 0)
    (hu : usedL (fa ys s B v :: l2) ≤ 20000) (hl : n ≤ 5000) :
    Calls Tryz.prog 46 #[.pointer (some ⟨F, 0, none⟩), .string ⟨#[97]⟩, .slice A n c] W fun e w' => e = .returned (.int .i64 (hitE arm)) ∧ ∃ v', Own w w' F M (fa (ys ++ xs) s B v' :: l2) clock 1048576 (decA arm) (decide (arm = 1)) := by
  refine (append_old A n c W F M 1048576 arm [] l2 (fa ys s B v) clock xs (show nmA.size ≤ 140737488355328 by decide) nmA_full h.at_ (by show usedL (fa ys s B v :: l2) ≤ _; omega) (h.bs hx) hn hA (fits_of (u := usedL (fa ys s B v :: l2)) rfl (by omega))).mono ?_
  rintro e w' ⟨v', rfl, hw'⟩
  exact ⟨rfl, v', h.step hw'⟩
theorem Own.appB2 {w W : World} {F M B s : Nat} {v : Value} {ys : List UInt8} (h : Own w W F M [fa ys s B v] 1 1048576 0 false) {A : Option Addr} {n c : Nat} {xs : List UInt8} (hx : Bs w A xs) (hn : n = xs.length) (hA : A = none → c = 0) (hl : n ≤ 5000) (hy : ys.length ≤ 20000)
    (hw : ∀ ad, A = some ad → xs = [] ∨ ad.block < w.heap.size) :
    Calls Tryz.prog 46 #[.pointer (some ⟨F, 0, none⟩), .string ⟨#[98]⟩, .slice A n c] W fun e w' => e = .returned (.int .i64 0) ∧ ∃ B2 v2, Own w w' F M [fa ys s B v, fb xs B2 v2] 2 1048576 0 false := by
  refine (append_new nmB A n c W F M 1048576 0 _ 1 xs (by simp [nmA, nmB]) (by decide) nmB_full h.at_ (by simp [usedL]; omega) (h.bs hx) hn hA (fits_of (u := ys.length) (by simp [usedL]) (by omega)) (fun ad e => ?_)).mono ?_
  · have := h.new M (by simp [foot])
    exact (hw ad e).imp id fun h => by omega
  · rintro e w' ⟨B2, v2, rfl, hw'⟩
    exact ⟨rfl, B2, v2, h.step hw'⟩
/-- What is down refuses. -/
theorem Own.appDown {w W : World} {F M clock : Nat} {ps : List PF} {lim arm : Int} (h : Own w W F M ps clock lim arm true) (s : ByteArray) (bs : Value) :
    Calls Tryz.prog 46 #[.pointer (some ⟨F, 0, none⟩), .string s, bs] W fun e w' => e = .returned (.int .i64 13) ∧ w' = W := by
  refine (append_no (.pointer (some ⟨F, 0, none⟩)) s bs 13 rfl W (Lib.hid (ready_any W F M lim arm true h.at_.fb))).mono ?_
  rintro e w' ⟨rfl, rfl⟩
  exact ⟨rfl, rfl⟩
/-- Read a file: first bytes of what was there. -/
theorem Own.readAt {w W : World} {F M clock : Nat} {l1 l2 : List PF} {q : PF} {s : ByteArray} {ys : List UInt8} (h : Own w W F M (l1 ++ q :: l2) clock 1048576 0 false) (hn : q.name = s) (hb : q.b = ys) :
    Calls Tryz.prog 13 #[.pointer (some ⟨F, 0, none⟩), .string s] W fun e w' => ∃ A c, e = .returned (.tuple #[.slice A ys.length c, .int .i64 0]) ∧ Bs w' A ys ∧ Own w w' F M (l1 ++ q :: l2) clock 1048576 0 false ∧ Kept (fun _ => False) W w' := by
  have := read_some W F M 1048576 0 l1 l2 q clock h.at_
  rw [hn, hb] at this
  refine this.mono ?_
  rintro e w' ⟨v, rfl, hown, hk⟩
  obtain ⟨A, c, rfl, _, hbs, _⟩ := Bs.of_own hown
  exact ⟨A, c, rfl, hbs, h.stay hk, hk⟩
/-- Two falls: the second one takes nothing more. -/
theorem Fell.two {p q r : PF} (h : Fell p q) (k : Fell q r) : r.name = p.name ∧ ∃ m, p.safe ≤ m ∧ m ≤ p.b.length ∧ r.b = p.b.take m := by
  obtain ⟨m, h1, h2, h3, h4⟩ := h.some_
  have hs : q.safe = q.b.length := by rw [h4, h3]; simp; omega
  have hw := k.whole hs
  exact ⟨hw.1.trans h.name, m, h1, h2, by rw [hw.2.1, h3]⟩
theorem own_ge {w : World} {base : Nat} {e : TypeId} {size n : Nat} {v : Value} {xs : List Value} (h : w.ownsRow base e size v n xs) : ∀ k, v.ownBlock = some k → base ≤ k := by
  intro k hk
  rcases h.2 with ⟨hv, _⟩ | ⟨g, cap, cur, hv, hb, _⟩
  · rw [hv] at hk; cases hk
  · have hg : g = k := by rw [hv] at hk; simpa [Value.ownBlock] using hk
    omega
theorem add0 (A : Option Addr) : (A.map (·.add 0)) = A := by
  cases A with
  | none => rfl
  | some a => simp [Addr.add]
/-- What is read is the first bytes of what was there. -/
theorem bytes_take (w : World) (A B : Option Addr) (n c d : Nat) (xs ys : List UInt8) (hx : Bs w A xs) (hn : n = xs.length) (he : xs = ys.take n) (hy : Bs w B ys) :
    Calls Tryz.prog 57 #[.slice A n c, .slice B n d] w fun e w' => e = .returned (.bool true) ∧ w = w' := by
  have hy' : Bs w B (ys.take n) := by
    refine ⟨fun e => ?_, fun ad e j u hu => hy.2 ad e j u ?_⟩
    · have := hy.1 e; simp [this]
    · rw [List.map_take, List.getElem?_take] at hu
      split at hu
      · exact hu
      · cases hu
  refine (bytes_any w A B n c n d xs (ys.take n) hn (by rw [← he]; exact hn) hx hy').mono ?_
  rintro e w' ⟨rfl, rfl⟩
  exact ⟨by rw [decide_eq_true he], rfl⟩
end Go.Proofs.YtibalgfejfjndaaGreatDoor
end

/-! Files as a disk: what is under each name; each operation in these words. -/
section
set_option linter.unusedVariables false
set_option linter.unusedSimpArgs false
namespace Go.Proofs.YtibalgfejfjndaaGreatDoor
open Go.RowKit

/-- A file's bytes, and how many of them are safe. -/
abbrev FV := List UInt8 × Nat
abbrev Disk := ByteArray → Option FV
def PF.fv (p : PF) : FV := (p.b, p.safe)
def lk (ps : List PF) : Disk := fun s => (ps.find? fun p => decide (p.name = s)).map PF.fv
def Disk.put (d : Disk) (s : ByteArray) (x : Option FV) : Disk := fun t => if t = s then x else d t
theorem Disk.put_same (d : Disk) (s : ByteArray) (x : Option FV) : d.put s x s = x := by simp [Disk.put]
theorem Disk.put_ne (d : Disk) {s t : ByteArray} (x : Option FV) (h : t ≠ s) : d.put s x t = d t := by simp [Disk.put, h]
theorem lk_nil : lk [] = fun _ => none := rfl
theorem lk_cons (p : PF) (ps : List PF) : lk (p :: ps) = (lk ps).put p.name (some p.fv) := by
  funext s
  unfold lk Disk.put
  by_cases h : p.name = s
  · simp [h]
  · rw [List.find?_cons_of_neg (by simpa using h), if_neg fun e => h e.symm]
theorem lk_none {ps : List PF} {s : ByteArray} : lk ps s = none ↔ ∀ p ∈ ps, p.name ≠ s := by
  unfold lk
  rw [Option.map_eq_none_iff, List.find?_eq_none]
  simp
theorem lk_split {ps : List PF} {s : ByteArray} {v : FV} (h : lk ps s = some v) : ∃ l1 p l2, ps = l1 ++ p :: l2 ∧ p.name = s ∧ p.fv = v ∧ ∀ q ∈ l1, q.name ≠ s := by
  induction ps with
  | nil => cases h
  | cons p ps ih =>
    rw [lk_cons] at h
    by_cases hp : s = p.name
    · subst hp
      rw [Disk.put_same] at h
      exact ⟨[], p, ps, rfl, rfl, Option.some.inj h, fun q hq => by cases hq⟩
    · rw [Disk.put_ne _ _ hp] at h
      obtain ⟨l1, q, l2, rfl, h2, h3, h4⟩ := ih h
      exact ⟨p :: l1, q, l2, rfl, h2, h3, fun r hr => by
        rcases List.mem_cons.1 hr with rfl | hr
        · exact fun e => hp e.symm
        · exact h4 r hr⟩
theorem lk_mid (l1 l2 : List PF) (p : PF) (h : ∀ q ∈ l1, q.name ≠ p.name) : lk (l1 ++ p :: l2) = (lk (l1 ++ l2)).put p.name (some p.fv) := by
  induction l1 with
  | nil => exact lk_cons p l2
  | cons q l1 ih =>
    rw [List.cons_append, lk_cons, ih fun r hr => h r (List.mem_cons_of_mem _ hr), List.cons_append, lk_cons]
    funext t
    unfold Disk.put
    have h1 := h q List.mem_cons_self
    by_cases h2 : t = q.name
    · rw [if_pos h2, if_neg (by rw [h2]; exact h1), if_pos h2]
    · rw [if_neg h2, if_neg h2]
theorem lk_end (ps : List PF) (p : PF) (h : ∀ q ∈ ps, q.name ≠ p.name) : lk (ps ++ [p]) = (lk ps).put p.name (some p.fv) := by
  rw [lk_mid ps [] p h, List.append_nil]
theorem nodup_mid {l1 l2 : List PF} {p : PF} (h : ((l1 ++ p :: l2).map PF.name).Nodup) : (∀ q ∈ l1 ++ l2, q.name ≠ p.name) := by
  rw [List.map_append, List.map_cons, List.nodup_append, List.nodup_cons] at h
  obtain ⟨h1, ⟨h2, h3⟩, h4⟩ := h
  intro q hq e
  rcases List.mem_append.1 hq with hq | hq
  · exact h4 _ (List.mem_map_of_mem hq) _ List.mem_cons_self e
  · exact h2 (e ▸ List.mem_map_of_mem hq)
theorem lk_out {l1 l2 : List PF} {p : PF} (h : ((l1 ++ p :: l2).map PF.name).Nodup) : lk (l1 ++ l2) = (lk (l1 ++ p :: l2)).put p.name none := by
  have h1 := nodup_mid h
  rw [lk_mid l1 l2 p fun q hq => h1 q (List.mem_append_left _ hq)]
  funext t
  unfold Disk.put
  by_cases h2 : t = p.name
  · subst h2; rw [if_pos rfl]; exact lk_none.2 h1
  · rw [if_neg h2, if_neg h2]
theorem lk_swap {l1 l2 : List PF} {p q : PF} (h : ((l1 ++ p :: l2).map PF.name).Nodup) (hq : q.name = p.name) : lk (l1 ++ q :: l2) = (lk (l1 ++ p :: l2)).put p.name (some q.fv) := by
  have h1 := nodup_mid h
  rw [lk_mid l1 l2 p fun r hr => h1 r (List.mem_append_left _ hr), lk_mid l1 l2 q fun r hr => hq ▸ h1 r (List.mem_append_left _ hr), hq]
  funext t
  unfold Disk.put
  by_cases h2 : t = p.name
  · rw [if_pos h2, if_pos h2]
  · rw [if_neg h2, if_neg h2, if_neg h2]
/-- What an operation leaves. -/
def DPost (w : World) (F M : Nat) (ps : List PF) (er lim arm : Int) (dn : Bool) (d : Disk) (e : Ending) (w' : World) : Prop :=
  e = .returned (.int .i64 er) ∧ ∃ ps' clock', Went w F M ps ps' clock' lim arm dn w' ∧ lk ps' = d
def oldB (x : Option FV) : FV := x.getD ([], 0)
section
variable {w : World} {F M : Nat} {ps : List PF} {clock : Nat} {lim arm : Int}
theorem append_D (s : ByteArray) (A : Option Addr) (n c : Nat) (xs : List UInt8) (h : FilesAt w F M ps clock lim arm false) (hs : s.size ≤ 140737488355328) (hf : fullB s = true) (hu : usedL ps ≤ 4194304) (hx : Bs w A xs) (hn : n = xs.length) (hA : A = none → c = 0) (hfit : Fits lim ps n) (hM : ∀ ad, A = some ad → xs = [] ∨ ad.block ≠ M) :
    Calls Tryz.prog 46 #[.pointer (some ⟨F, 0, none⟩), .string s, .slice A n c] w (DPost w F M ps (hitE arm) lim (decA arm) (decide (arm = 1)) ((lk ps).put s (some ((oldB (lk ps s)).1 ++ xs, (oldB (lk ps s)).2)))) := by
  cases hl : lk ps s with
  | none =>
    have hno := lk_none.1 hl
    refine (append_new s A n c w F M lim arm ps clock xs hno hs hf h hu hx hn hA hfit hM).mono ?_
    rintro e w' ⟨B, v, rfl, hw⟩
    exact ⟨rfl, _, _, hw, by rw [lk_end _ _ hno]; rfl⟩
  | some v =>
    obtain ⟨l1, p, l2, rfl, rfl, rfl, -⟩ := lk_split hl
    refine (append_old A n c w F M lim arm l1 l2 p clock xs hs hf h hu hx hn hA hfit).mono ?_
    rintro e w' ⟨v, rfl, hw⟩
    exact ⟨rfl, _, _, hw, by rw [lk_swap h.names (q := { p with b := p.b ++ xs, val := v }) rfl]; rfl⟩
theorem sync_D (s : ByteArray) (v : FV) (h : FilesAt w F M ps clock lim arm false) (hl : lk ps s = some v) :
    Calls Tryz.prog 50 #[.pointer (some ⟨F, 0, none⟩), .string s] w (DPost w F M ps (hitE arm) lim (decA arm) (decide (arm = 1)) (if arm = 1 then lk ps else (lk ps).put s (some (v.1, v.1.length)))) := by
  obtain ⟨l1, p, l2, rfl, rfl, rfl, -⟩ := lk_split hl
  by_cases ha : arm = 1
  · subst ha
    refine (sync_hit w F M lim l1 l2 p clock h).mono ?_
    rintro e w' ⟨rfl, hw⟩
    exact ⟨rfl, _, _, hw, by rw [if_pos rfl]⟩
  · refine (sync_ok w F M lim arm l1 l2 p clock ha h).mono ?_
    rintro e w' ⟨rfl, hw⟩
    rw [decide_eq_false ha, if_neg ha]
    exact ⟨by rw [hitE, if_neg ha], _, _, hw, by rw [lk_swap h.names (q := { p with safe := p.b.length }) rfl]; rfl⟩
theorem trunc_D (s : ByteArray) (v : FV) (n : Nat) (h : FilesAt w F M ps clock lim arm false) (hl : lk ps s = some v) (hn : n ≤ v.1.length) :
    Calls Tryz.prog 16 #[.pointer (some ⟨F, 0, none⟩), .string s, .int .i64 (n : Nat)] w (DPost w F M ps (hitE arm) lim (decA arm) (decide (arm = 1)) (if arm = 1 then lk ps else (lk ps).put s (some (v.1.take n, min v.2 n)))) := by
  obtain ⟨l1, p, l2, rfl, rfl, rfl, -⟩ := lk_split hl
  by_cases ha : arm = 1
  · subst ha
    refine (trunc_hit w F M lim l1 l2 p clock n hn h).mono ?_
    rintro e w' ⟨rfl, hw⟩
    exact ⟨rfl, _, _, hw, by rw [if_pos rfl]⟩
  · rw [decide_eq_false ha, if_neg ha, hitE, if_neg ha]
    by_cases hm : n < p.safe
    · refine (trunc_lt w F M lim arm l1 l2 p clock n hn hm ha h).mono ?_
      rintro e w' ⟨v, rfl, hw⟩
      exact ⟨rfl, _, _, hw, by rw [lk_swap h.names (q := { p with b := p.b.take n, safe := min p.safe n, val := v }) rfl]; rfl⟩
    · refine (trunc_ge w F M lim arm l1 l2 p clock n hn hm ha h).mono ?_
      rintro e w' ⟨v, rfl, hw⟩
      exact ⟨rfl, _, _, hw, by rw [lk_swap h.names (q := { p with b := p.b.take n, safe := min p.safe n, val := v }) rfl]; rfl⟩
theorem remove_D (s : ByteArray) (v : FV) (h : FilesAt w F M ps clock lim arm false) (hl : lk ps s = some v) :
    Calls Tryz.prog 15 #[.pointer (some ⟨F, 0, none⟩), .string s] w (DPost w F M ps (hitE arm) lim (decA arm) (decide (arm = 1)) (if arm = 1 then lk ps else (lk ps).put s none)) := by
  obtain ⟨l1, p, l2, rfl, rfl, rfl, -⟩ := lk_split hl
  refine (remove_any w F M lim arm l1 l2 p clock h).mono ?_
  intro e w' hp
  by_cases ha : arm = 1
  · rw [if_pos ha] at hp
    obtain ⟨rfl, hw⟩ := hp
    rw [decide_eq_true ha, if_pos ha, hitE, if_pos ha]
    exact ⟨rfl, _, _, hw, rfl⟩
  · rw [if_neg ha] at hp
    obtain ⟨rfl, hw⟩ := hp
    rw [decide_eq_false ha, if_neg ha, hitE, if_neg ha]
    exact ⟨rfl, _, _, hw, lk_out h.names⟩
theorem remove_noD (s : ByteArray) (h : FilesAt w F M ps clock lim arm false) (hl : lk ps s = none) : Calls Tryz.prog 15 #[.pointer (some ⟨F, 0, none⟩), .string s] w (Ret 8 w) :=
  remove_no _ _ 8 rfl w (Lib.hid (there_none s w F M lim arm ps clock h (lk_none.1 hl)))
theorem read_D (s : ByteArray) (v : FV) (h : FilesAt w F M ps clock lim arm false) (hl : lk ps s = some v) : Calls Tryz.prog 13 #[.pointer (some ⟨F, 0, none⟩), .string s] w (ReadPost w F M v.1 0) := by
  obtain ⟨l1, p, l2, rfl, rfl, rfl, -⟩ := lk_split hl
  exact read_some w F M lim arm l1 l2 p clock h
theorem read_noD (s : ByteArray) (h : FilesAt w F M ps clock lim arm false) (hl : lk ps s = none) : Calls Tryz.prog 13 #[.pointer (some ⟨F, 0, none⟩), .string s] w (ReadPost w F M [] 8) :=
  read_none s w F M lim arm ps clock h (lk_none.1 hl)
end
/-- A fall, in these words. -/
def FellV (x y : Option FV) : Prop := (x = none ∧ y = none) ∨ ∃ b s k, x = some (b, s) ∧ s ≤ k ∧ k ≤ b.length ∧ y = some (b.take k, k)
theorem All2.fell {ps qs : List PF} (h : All2 Fell ps qs) : ∀ s, FellV (lk ps s) (lk qs s) := by
  induction ps generalizing qs with
  | nil =>
    obtain rfl : qs = [] := List.eq_nil_of_length_eq_zero h.1.symm
    exact fun s => .inl ⟨rfl, rfl⟩
  | cons p ps ih =>
    cases qs with
    | nil => have := h.1; simp at this
    | cons q qs =>
      have h1 := h.2 0 p q rfl rfl
      have h2 := ih (qs := qs) ⟨by have := h.1; simpa using this, fun i a b ha hb => h.2 (i + 1) a b ha hb⟩
      intro s
      rw [lk_cons, lk_cons, h1.name]
      by_cases hs : s = p.name
      · subst hs
        rw [Disk.put_same, Disk.put_same]
        obtain ⟨k, h3, h4, h5, h6⟩ := h1.some_
        exact .inr ⟨p.b, p.safe, k, rfl, h3, h4, by rw [PF.fv, h5, h6]⟩
      · rw [Disk.put_ne _ _ hs, Disk.put_ne _ _ hs]
        exact h2 s
theorem len_sub {S l : List ByteArray} (hn : l.Nodup) (hs : ∀ x ∈ l, x ∈ S) : l.length ≤ S.length := by
  induction l generalizing S with
  | nil => simp
  | cons x l ih =>
    rw [List.nodup_cons] at hn
    obtain ⟨a, b, rfl⟩ := List.append_of_mem (hs x List.mem_cons_self)
    have h1 := ih (S := a ++ b) hn.2 fun y hy => by
      have h2 := hs y (List.mem_cons_of_mem _ hy)
      rw [List.mem_append, List.mem_cons] at h2
      rw [List.mem_append]
      rcases h2 with h2 | h2 | h2
      · exact .inl h2
      · exact absurd hy (h2 ▸ hn.1)
      · exact .inr h2
    rw [List.length_append] at h1
    rw [List.length_cons, List.length_append, List.length_cons]; omega
def szV (x : Option FV) : Nat := (oldB x).1.length
theorem sum_put {S : List ByteArray} {d : Disk} {s : ByteArray} {v : FV} (hS : S.Nodup) (hs : s ∈ S) (hd : d s = none) : (S.map fun t => szV (d.put s (some v) t)).sum = (S.map fun t => szV (d t)).sum + v.1.length := by
  induction S with
  | nil => cases hs
  | cons x S ih =>
    rw [List.nodup_cons] at hS
    simp only [List.map_cons, List.sum_cons]
    by_cases hx : s = x
    · subst hx
      rw [Disk.put_same, hd]
      have : (S.map fun t => szV (d.put s (some v) t)) = (S.map fun t => szV (d t)) := by
        apply List.map_congr_left
        intro t ht
        rw [Disk.put_ne _ _ (fun e => hS.1 (by rw [← e]; exact ht))]
      rw [this]
      simp [szV, oldB]; omega
    · have h1 := ih hS.2 ((List.mem_cons.1 hs).resolve_left hx)
      rw [h1, Disk.put_ne _ _ fun e => hx e.symm]; omega
/-- How many bytes there are, name by name. -/
theorem used_sum {S : List ByteArray} {ps : List PF} (hS : S.Nodup) (hn : (ps.map PF.name).Nodup) (hs : ∀ p ∈ ps, p.name ∈ S) : usedL ps = (S.map fun t => szV (lk ps t)).sum := by
  induction ps with
  | nil =>
    have : (S.map fun t => szV (lk [] t)) = S.map fun _ => 0 := rfl
    rw [this]
    have : ∀ (l : List ByteArray), (l.map fun _ => 0).sum = 0 := by
      intro l; induction l with
      | nil => rfl
      | cons a l ih => simp [ih]
    rw [this]; rfl
  | cons p ps ih =>
    rw [List.map_cons, List.nodup_cons] at hn
    have h1 := ih hn.2 fun q hq => hs q (List.mem_cons_of_mem _ hq)
    have h2 : lk ps p.name = none := lk_none.2 fun q hq e => hn.1 (e ▸ List.mem_map_of_mem hq)
    rw [lk_cons, sum_put hS (hs p List.mem_cons_self) h2, ← h1]
    simp [usedL, PF.fv]; omega
theorem lk_mem {ps : List PF} {p : PF} (hp : p ∈ ps) : lk ps p.name ≠ none := fun e => lk_none.1 e p hp rfl
end Go.Proofs.YtibalgfejfjndaaGreatDoor
end

/-! A segment's file's name: sixteen digits; names in order; which of some names are a log's. -/
section
set_option linter.unusedVariables false
set_option linter.unusedSimpArgs false
namespace Go.Proofs.YtibalgfejfjndaaGreatDoor

/-- A digit of 16. -/
def hexc (d : Nat) : UInt8 := if d < 10 then UInt8.ofNat (48 + d) else UInt8.ofNat (87 + d)
def hexN : Nat → Nat → List UInt8
  | 0, _ => []
  | n + 1, v => hexN n (v / 16) ++ [hexc (v % 16)]
def dig (c : UInt8) : Option Nat := if 48 ≤ c.toNat ∧ c.toNat ≤ 57 then some (c.toNat - 48) else if 97 ≤ c.toNat ∧ c.toNat ≤ 102 then some (c.toNat - 87) else none
def valL (v : Nat) (l : List UInt8) : Option Nat := match l with
  | [] => some v
  | c :: r => match dig c with
    | none => none
    | some d => valL (v * 16 + d) r
theorem hexc_nat (d : Nat) (h : d < 16) : (hexc d).toNat = if d < 10 then 48 + d else 87 + d := by
  unfold hexc; split <;> simp <;> omega
theorem dig_hexc (d : Nat) (h : d < 16) : dig (hexc d) = some d := by
  unfold dig; rw [hexc_nat d h]
  by_cases h1 : d < 10
  · rw [if_pos h1, if_pos (by omega)]; congr 1; omega
  · rw [if_neg h1, if_neg (by omega), if_pos (by omega)]; congr 1; omega
theorem dig_lt {c : UInt8} {d : Nat} (h : dig c = some d) : d < 16 := by
  unfold dig at h; split at h
  · cases h; omega
  · split at h
    · cases h; omega
    · cases h
theorem hexc_dig {c : UInt8} {d : Nat} (h : dig c = some d) : hexc d = c := by
  have hd := dig_lt h
  apply UInt8.toNat_inj.1
  rw [hexc_nat d hd]
  unfold dig at h; split at h
  · cases h; rw [if_pos (by omega)]; omega
  · split at h
    · cases h; rw [if_neg (by omega)]; omega
    · cases h
theorem hexN_len (n v : Nat) : (hexN n v).length = n := by
  induction n generalizing v with
  | zero => rfl
  | succ n ih => simp [hexN, ih]
theorem valL_append (v : Nat) (a b : List UInt8) : valL v (a ++ b) = (valL v a).bind fun u => valL u b := by
  induction a generalizing v with
  | nil => rfl
  | cons c r ih =>
    simp only [List.cons_append, valL]
    cases dig c with
    | none => rfl
    | some d => exact ih _
theorem valL_hexN (n v u : Nat) (h : v < 16 ^ n) : valL u (hexN n v) = some (u * 16 ^ n + v) := by
  induction n generalizing v with
  | zero => simp [hexN, valL]; simp at h; omega
  | succ n ih =>
    rw [hexN, valL_append, ih _ (by rw [Nat.div_lt_iff_lt_mul (by decide)]; rw [Nat.pow_succ] at h; exact h)]
    simp only [Option.bind_some, valL, dig_hexc _ (Nat.mod_lt _ (by decide : 0 < 16))]
    congr 1
    rw [Nat.pow_succ]
    have := Nat.div_add_mod v 16
    have e : (u * 16 ^ n + v / 16) * 16 = u * (16 ^ n * 16) + 16 * (v / 16) := by rw [Nat.add_mul, Nat.mul_assoc]; omega
    omega
theorem hexN_valL (l : List UInt8) (v : Nat) (h : valL 0 l = some v) : v < 16 ^ l.length ∧ hexN l.length v = l := by
  have : ∀ (n : Nat) (l : List UInt8), l.length = n → ∀ v, valL 0 l = some v → v < 16 ^ n ∧ hexN n v = l := by
    intro n
    induction n with
    | zero =>
      intro l hl v h
      obtain rfl := List.eq_nil_of_length_eq_zero hl
      simp [valL] at h
      subst h
      exact ⟨by decide, rfl⟩
    | succ n ih =>
      intro l hl v h
      have hne : l ≠ [] := fun e => by rw [e] at hl; simp at hl
      obtain ⟨m, c, rfl⟩ : ∃ m c, l = m ++ [c] := ⟨l.dropLast, l.getLast hne, (List.dropLast_concat_getLast hne).symm⟩
      rw [valL_append] at h
      cases hm : valL 0 m with
      | none => rw [hm] at h; cases h
      | some u =>
        rw [hm] at h
        simp only [Option.bind_some, valL] at h
        cases hd : dig c with
        | none => rw [hd] at h; cases h
        | some d =>
          rw [hd] at h
          simp only [Option.some.injEq] at h
          subst h
          have hd16 := dig_lt hd
          obtain ⟨h1, h2⟩ := ih m (by simp at hl; exact hl) u hm
          refine ⟨by rw [Nat.pow_succ]; omega, ?_⟩
          rw [hexN, show (u * 16 + d) / 16 = u by omega, show (u * 16 + d) % 16 = d by omega, h2, hexc_dig hd]
  exact this l.length l rfl v h
/-- How a segment's file is called. -/
def fileL (nm : List UInt8) (v : Nat) : List UInt8 := nm ++ ([46, 115] ++ hexN 16 v)
def fileB (nm : ByteArray) (v : Nat) : ByteArray := ⟨(fileL nm.data.toList v).toArray⟩
/-- Which segment a name is. -/
def unname (nm s : List UInt8) : Option Nat := if nm ++ [46, 115] = s.take (nm.length + 2) ∧ s.length = nm.length + 18 then valL 0 (s.drop (nm.length + 2)) else none
theorem fileL_len (nm : List UInt8) (v : Nat) : (fileL nm v).length = nm.length + 18 := by simp [fileL, hexN_len]
theorem unname_file (nm : List UInt8) (v : Nat) (h : v < 18446744073709551616) : unname nm (fileL nm v) = some v := by
  have h1 : fileL nm v = (nm ++ [46, 115]) ++ hexN 16 v := by simp [fileL]
  have h2 : (nm ++ [46, 115]).length = nm.length + 2 := by simp
  unfold unname
  rw [if_pos ⟨by rw [h1, ← h2, List.take_left], fileL_len nm v⟩, h1, ← h2, List.drop_left, valL_hexN 16 v 0 (by simpa using h)]
  simp
theorem unname_some {nm s : List UInt8} {v : Nat} (h : unname nm s = some v) : v < 18446744073709551616 ∧ s = fileL nm v := by
  unfold unname at h
  split at h
  · next hc =>
    obtain ⟨h1, h2⟩ := hc
    obtain ⟨h3, h4⟩ := hexN_valL _ _ h
    have hl : (s.drop (nm.length + 2)).length = 16 := by simp; omega
    rw [hl] at h3 h4
    refine ⟨by simpa using h3, ?_⟩
    have : s = s.take (nm.length + 2) ++ s.drop (nm.length + 2) := (List.take_append_drop _ _).symm
    rw [this, ← h1, fileL, h4]; simp
  · cases h
theorem fileL_inj {nm : List UInt8} {v u : Nat} (hv : v < 18446744073709551616) (hu : u < 18446744073709551616) (h : fileL nm v = fileL nm u) : v = u := by
  have := unname_file nm v hv
  rw [h, unname_file nm u hu] at this
  exact (Option.some.inj this).symm
theorem hexc_lt {a b : Nat} (h : a < b) (hb : b < 16) : hexc a < hexc b := by
  rw [UInt8.lt_iff_toNat_lt, hexc_nat a (by omega), hexc_nat b hb]
  split <;> split <;> omega
theorem lex_pre (p a b : List UInt8) : p ++ a < p ++ b ↔ a < b := by
  induction p with
  | nil => rfl
  | cons x p ih => simp [List.cons_lt_cons_iff, ih]
theorem lex_app : ∀ (a b c d : List UInt8), a.length = b.length → a < b → a ++ c < b ++ d
  | [], [], c, d, _, h => absurd h (List.lt_irrefl [])
  | x :: a, y :: b, c, d, hl, h => by
    simp only [List.cons_append, List.cons_lt_cons_iff] at h ⊢
    rcases h with h | ⟨rfl, h⟩
    · exact .inl h
    · exact .inr ⟨rfl, lex_app a b c d (by simpa using hl) h⟩
theorem hexN_lt (n : Nat) : ∀ {a b : Nat}, a < b → b < 16 ^ n → hexN n a < hexN n b := by
  induction n with
  | zero => intro a b h hb; simp at hb; omega
  | succ n ih =>
    intro a b h hb
    rw [Nat.pow_succ] at hb
    rw [hexN, hexN]
    by_cases h1 : a / 16 = b / 16
    · rw [h1, lex_pre]
      have : hexc (a % 16) < hexc (b % 16) := hexc_lt (by omega) (Nat.mod_lt _ (by decide))
      simp [List.cons_lt_cons_iff, this]
    · exact lex_app _ _ _ _ (by rw [hexN_len, hexN_len]) (ih (by omega) (by omega))
theorem fileL_lt {nm : List UInt8} {a b : Nat} (h : a < b) (hb : b < 18446744073709551616) : fileL nm a < fileL nm b := by
  rw [fileL, fileL, lex_pre, lex_pre]
  exact hexN_lt 16 h (by simpa using hb)
/-- The segments among names. -/
def picks (nm : List UInt8) (l : List (List UInt8)) : List Nat := l.filterMap (unname nm)
theorem picks_mem {nm : List UInt8} {l : List (List UInt8)} {v : Nat} : v ∈ picks nm l ↔ v < 18446744073709551616 ∧ fileL nm v ∈ l := by
  unfold picks
  rw [List.mem_filterMap]
  constructor
  · rintro ⟨s, hs, h⟩
    obtain ⟨h1, rfl⟩ := unname_some h
    exact ⟨h1, hs⟩
  · rintro ⟨h1, h2⟩
    exact ⟨_, h2, unname_file nm v h1⟩
theorem picks_rise {nm : List UInt8} {l : List (List UInt8)} (h : l.Pairwise (· < ·)) : (picks nm l).Pairwise (· < ·) := by
  unfold picks
  refine List.Pairwise.filterMap (unname nm) ?_ h
  intro a b hab x hx y hy
  obtain ⟨h1, rfl⟩ := unname_some hx
  obtain ⟨h2, rfl⟩ := unname_some hy
  rcases Nat.lt_trichotomy x y with h | h | h
  · exact h
  · subst h; exact absurd hab (List.lt_irrefl _)
  · exact absurd (List.lt_trans hab (fileL_lt h h1)) (List.lt_irrefl _)
theorem rise_ext : ∀ {a b : List Nat}, a.Pairwise (· < ·) → b.Pairwise (· < ·) → (∀ x, x ∈ a ↔ x ∈ b) → a = b
  | [], [], _, _, _ => rfl
  | [], y :: b, _, _, h => absurd ((h y).2 List.mem_cons_self) (by simp)
  | x :: a, [], _, _, h => absurd ((h x).1 List.mem_cons_self) (by simp)
  | x :: a, y :: b, ha, hb, h => by
    rw [List.pairwise_cons] at ha hb
    have hxy : x = y := by
      rcases List.mem_cons.1 ((h x).1 List.mem_cons_self) with e | e
      · exact e
      · rcases List.mem_cons.1 ((h y).2 List.mem_cons_self) with e2 | e2
        · exact e2.symm
        · have h1 := ha.1 y e2
          have h2 := hb.1 x e
          omega
    subst hxy
    congr 1
    refine rise_ext ha.2 hb.2 fun z => ⟨fun hz => ?_, fun hz => ?_⟩
    · rcases List.mem_cons.1 ((h z).1 (List.mem_cons_of_mem _ hz)) with e | e
      · have := ha.1 z hz; omega
      · exact e
    · rcases List.mem_cons.1 ((h z).2 (List.mem_cons_of_mem _ hz)) with e | e
      · have := hb.1 z hz; omega
      · exact e
theorem rise_of_sorted : ∀ {l : List (List UInt8)}, l.Pairwise (fun a b => leB a b = true) → l.Nodup → l.Pairwise (· < ·)
  | [], _, _ => .nil
  | x :: l, h, hn => by
    rw [List.pairwise_cons] at h ⊢
    rw [List.nodup_cons] at hn
    refine ⟨fun y hy => ?_, rise_of_sorted h.2 hn.2⟩
    have h1 : x ≤ y := by simpa [leB] using h.1 y hy
    rcases Std.le_total (a := y) (b := x) with h2 | h2
    · exact absurd (Std.le_antisymm h1 h2 ▸ hy) hn.1
    · exact Std.lt_of_le_of_ne h1 fun e => hn.1 (e ▸ hy)
theorem sortN_rise {ps : List PF} (h : (ps.map PF.name).Nodup) : (sortN ps).Pairwise (· < ·) := by
  refine rise_of_sorted ?_ ((sortN_perm ps).nodup_iff.2 ?_)
  · exact List.pairwise_mergeSort (by intro a b c h1 h2; simp [leB] at *; exact Std.le_trans h1 h2) (by intro a b; simp [leB]; exact Std.le_total) _
  · unfold namesL
    rw [show (fun p : PF => p.name.data.toList) = (fun s : ByteArray => s.data.toList) ∘ PF.name from rfl, ← List.map_map]
    exact List.Pairwise.map _ (fun a b hab e => hab (by cases a; cases b; simp at e; exact congrArg ByteArray.mk e)) h
theorem name_mem {ps : List PF} {s : List UInt8} : s ∈ sortN ps ↔ lk ps ⟨s.toArray⟩ ≠ none := by
  rw [(sortN_perm ps).mem_iff]
  unfold namesL
  rw [List.mem_map, ne_eq, lk_none]
  constructor
  · rintro ⟨p, hp, rfl⟩ h
    exact h p hp (by simp)
  · intro h
    apply Classical.byContradiction
    intro hc
    exact h fun p hp e => hc ⟨p, hp, by rw [e]⟩
/-- The segments that lie there. -/
theorem picks_is {ps : List PF} {nm : ByteArray} {fs : List Nat} (h : (ps.map PF.name).Nodup) (hf : fs.Pairwise (· < ·)) (h64 : ∀ v ∈ fs, v < 18446744073709551616)
    (hm : ∀ v, v < 18446744073709551616 → (lk ps (fileB nm v) ≠ none ↔ v ∈ fs)) : picks nm.data.toList (sortN ps) = fs := by
  refine rise_ext (picks_rise (sortN_rise h)) hf fun v => ?_
  rw [picks_mem, name_mem]
  constructor
  · rintro ⟨h1, h2⟩
    exact (hm v h1).1 h2
  · intro h1
    exact ⟨h64 v h1, (hm v (h64 v h1)).2 h1⟩
end Go.Proofs.YtibalgfejfjndaaGreatDoor
end

/-! General laws: lists of cells, slices of pairs, append of pairs and of bytes. -/
section
set_option linter.unusedVariables false
set_option linter.unusedSimpArgs false
namespace Go.Proofs.YtibalgfejfjndaaGreatDoor
open Go.RowKit

/-- What a slice reads as, cell by cell. -/
def Cs (w : World) (A : Option Addr) (xs : List Value) : Prop := (A = none → xs = []) ∧ ∀ ad, A = some ad → ∀ (j : Nat) u, xs[j]? = some u → w.cell? (ad.add j) = some u
theorem Cs.kept {S : Nat → Prop} {w w' : World} {A : Option Addr} {xs : List Value} (h : Cs w A xs) (hk : Kept S w w') (hS : ∀ ad, A = some ad → ¬ S ad.block) : Cs w' A xs :=
  ⟨h.1, fun ad e j u hu => hk.cell (h.2 ad e j u hu) (by rw [add_block]; exact hS ad e)⟩
theorem own_slice {w : World} {base : Nat} {e : TypeId} {size n : Nat} {v : Value} {xs : List Value} (h : w.ownsRow base e size v n xs) : ∃ A c, v = .slice A n c := by
  rcases h.2 with ⟨hv, h0⟩ | ⟨g, cap, cur, hv, _⟩
  · exact ⟨none, 0, by rw [hv, h0]⟩
  · exact ⟨_, _, hv⟩
theorem cs_new (W : World) (cs : List Value) (t : TypeId) : Cs (W.alloc (.cells cs.toArray t)) (some ⟨W.heap.size, 0, none⟩) cs := by
  refine ⟨fun e => by simp at e, fun ad e j u hu => ?_⟩
  injection e with e
  subst e
  exact World.news_of_block (heap_alloc_new W _) j u (by simpa using hu)
/-- append(s, xs...) onto bytes of the call's own, xs nil or not: at an operation; at a step of a region that draws. -/
theorem wp_append_bs {w : World} {o : Oper} {a : Act} {K : Act → World → Prop} {Q : Exit → Act → World → Prop} (s x : Operand)
    (ho : o.op = .call { callee := .builtin .append, args := #[s, x], argTypes := #[30, 30] })
    (base : Nat) (v : Value) (n : Nat) (ys : List Value) (hs : a.eval s = v) (hown : w.ownsRow base 5 1 v n ys)
    (A : Option Addr) (m c : Nat) (xs : List UInt8) (hx : a.eval x = .slice A m c) (hB : Bs w A xs) (hm : m = xs.length) (hA : A = none → c = 0)
    (h63 : n + m ≤ 1000000000) (hbase : base ≤ w.heap.size)
    (h : ∀ v' w', w'.ownsRow base 5 1 v' (n + m) (ys ++ xs.map bv) → w.grownBy w' v.ownBlock → K (a.put o.dst v') w') : o.wp Tryz.prog a w K Q := by
  obtain ⟨i0, hi, hz0, hz1, hz2⟩ := info_parts infoU8
  cases A with
  | none =>
    have h1 := hB.1 rfl
    have h2 := hA rfl
    subst h1; subst h2
    simp only [List.length_nil] at hm
    subst hm
    have hrun := run_append_owned_none (P := Tryz.prog) (w := w) base 30 o.type 5 i0 1 Tryz.underlying30 hi v n ys hown
    unfold Oper.wp
    simp [execOp, ho, resolve, invoke, builtin, hs, hx, hrun, Result.andThen]
    exact h v w (by simpa using hown) ⟨rfl, rfl, rfl, Nat.le_refl _, fun _ _ _ => rfl⟩
  | some ad =>
    refine wp_append_own w s x 30 ho base 5 i0 (.int .u8 0) 1 1 Tryz.underlying30 hi hz0 hz1 hz2 rfl (by decide) v n ys hs hown ad m c (xs.map bv) hx (by rw [List.length_map, hm, Nat.mul_one]) (hB.2 ad rfl) (bv_one xs) (by unfold maxLen; omega) (by omega) hbase ?_
    intro v' w' h2 h3 _
    exact h v' w' h2 h3
theorem step_append_bs {w : World} {ops : Array Oper} {o : Oper} {a : Act} {K : Act → World → Prop} {Q : Exit → Act → World → Prop} {E : Prop} (hgd : o.guard = none) (s x : Operand)
    (ho : o.op = .call { callee := .builtin .append, args := #[s, x], argTypes := #[30, 30] })
    (base : Nat) (v : Value) (n : Nat) (ys : List Value) (hs : a.eval s = v) (hown : w.ownsRow base 5 1 v n ys)
    (A : Option Addr) (m c : Nat) (xs : List UInt8) (hx : a.eval x = .slice A m c) (hB : Bs w A xs) (hm : m = xs.length) (hA : A = none → c = 0)
    (h63 : n + m ≤ 1000000000) (hbase : base ≤ w.heap.size)
    (h : ∀ v' w', w'.ownsRow base 5 1 v' (n + m) (ys ++ xs.map bv) → w.grownBy w' v.ownBlock → K (a.put o.dst v') w') : if Region.wanted o (yielded ops a.tmps) = true then Oper.wp Tryz.prog o a w K Q else E := by
  have hw : Region.wanted o (yielded ops a.tmps) = true := by simp [Region.wanted, hgd]
  rw [if_pos hw]
  exact wp_append_bs s x ho base v n ys hs hown A m c xs hx hB hm hA h63 hbase h
theorem Bs.kept' {S : Nat → Prop} {w w' : World} {A : Option Addr} {xs : List UInt8} (h : Bs w A xs) (hk : Kept S w w') (hS : ∀ ad, A = some ad → xs = [] ∨ ¬ S ad.block) : Bs w' A xs := by
  by_cases he : xs = []
  · subst he; exact Bs.nil _ _
  · exact h.kept hk fun ad e => (hS ad e).resolve_left he
theorem cell_off (w : World) (G i j : Nat) (u : Value) (h : i ≠ j) : (w.setCell ⟨G, i, none⟩ u).cell? ⟨G, j, none⟩ = w.cell? ⟨G, j, none⟩ := by
  apply World.cell?_setCell_other
  intro e
  injection e with _ e
  exact h e
theorem str_lss (a b : ByteArray) : Op.bytesLess a.toList b.toList = decide (a.data.toList < b.data.toList) := by
  rw [Go.Proofs.bytesLess_eq, Lib.toList_data, Lib.toList_data]
theorem str_eq (a b : ByteArray) : (a.toList == b.toList) = decide (a = b) := by
  rw [Bool.eq_iff_iff, beq_iff_eq, decide_eq_true_eq]
  rw [Lib.toList_data, Lib.toList_data]
  refine ⟨fun h => ?_, fun h => by rw [h]⟩
  cases a; cases b
  simp only at h
  congr 1
  exact Array.toList_inj.1 h
end Go.Proofs.YtibalgfejfjndaaGreatDoor
end

/-! code: fold, Num, Zig, Text; courantref01: Num, Zig, Text: the same bytes. -/
section
set_option linter.unusedVariables false
set_option linter.unusedSimpArgs false
namespace Go.Proofs.YtibalgfejfjndaaGreatDoor
open Go.RowKit

/-- A number as bytes, the lowest seven bits first. -/
def numF : Nat → Nat → List UInt8
  | 0, v => [UInt8.ofNat v]
  | k + 1, v => if v < 128 then [UInt8.ofNat v] else UInt8.ofNat (v % 128 + 128) :: numF k (v / 128)
def numB (v : Nat) : List UInt8 := numF 10 v
/-- A length as bytes. -/
def zigB (n : Nat) : List UInt8 := numB (2 * n)
def textB (b : List UInt8) : List UInt8 := zigB b.length ++ b
theorem num_len (k v : Nat) : 1 ≤ (numF k v).length ∧ (numF k v).length ≤ k + 1 := by
  induction k generalizing v with
  | zero => simp [numF]
  | succ k ih =>
    simp only [numF]
    split
    · simp
    · have := ih (v / 128); simp; omega
theorem bits_or_u8_nat (a b : Nat) (ha : a < 256) (hb : b < 256) : bits .or .u8 (a : Int) (b : Int) = ((a ||| b : Nat) : Int) := by
  have hx : a ||| b < 2 ^ 8 := Nat.or_lt_two_pow (by omega) (by omega)
  have h1 : (BitVec.ofInt 8 (a : Int)).toNat = a := by
    rw [BitVec.ofInt_natCast, BitVec.toNat_ofNat]; exact Nat.mod_eq_of_lt (by omega)
  have h2 : (BitVec.ofInt 8 (b : Int)).toNat = b := by
    rw [BitVec.ofInt_natCast, BitVec.toNat_ofNat]; exact Nat.mod_eq_of_lt (by omega)
  show IntKind.u8.wrap ((BitVec.ofInt 8 (a : Int) ||| BitVec.ofInt 8 (b : Int)).toNat : Int) = _
  rw [BitVec.toNat_or, h1, h2, IntKind.wrap_u8]
  omega
theorem or128 (v : Nat) : bits .or .u8 ((v : Int) % 256) 128 = ((v % 128 + 128 : Nat) : Int) := by
  rw [show (v : Int) % 256 = ((v % 256 : Nat) : Int) by omega]
  refine (bits_or_u8_nat (v % 256) 128 (by omega) (by omega)).trans ?_
  congr 1
  have h := Nat.two_pow_add_eq_or_of_lt (i := 7) (b := v % 128) (by omega) 1
  by_cases hv : v % 256 < 128
  · rw [Nat.or_comm, show v % 256 = v % 128 by omega]; simpa [Nat.add_comm] using h.symm
  · rw [show v % 256 = 2 ^ 7 * 1 + v % 128 by omega, h, Nat.or_assoc, Nat.or_comm (v % 128), ← Nat.or_assoc, Nat.or_self, ← h]; omega
end Go.Proofs.YtibalgfejfjndaaGreatDoor
end

/-! code: fold, Zig, Text; courantref01: Zig, Text. -/
section
set_option linter.unusedVariables false
set_option linter.unusedSimpArgs false
namespace Go.Proofs.YtibalgfejfjndaaGreatDoor
open Go.RowKit

theorem bits_xor_zero (n : Nat) (h : n < 18446744073709551616) : bits .xor .u64 (n : Int) 0 = (n : Int) := by
  have h1 : (BitVec.ofInt 64 (n : Int)).toNat = n := by
    rw [BitVec.ofInt_natCast, BitVec.toNat_ofNat]; exact Nat.mod_eq_of_lt (by omega)
  show IntKind.u64.wrap ((BitVec.ofInt 64 (n : Int) ^^^ BitVec.ofInt 64 0).toNat : Int) = _
  rw [BitVec.toNat_xor, h1, show (BitVec.ofInt 64 0).toNat = 0 from rfl, Nat.xor_zero, IntKind.wrap_u64]
  omega
theorem numB_len (v : Nat) : 1 ≤ (numB v).length ∧ (numB v).length ≤ 11 := num_len 10 v
theorem textB_len (b : List UInt8) : (textB b).length = (zigB b.length).length + b.length := by simp [textB]
end Go.Proofs.YtibalgfejfjndaaGreatDoor
end

/-! Pairs that came in, as they lie; keyed.Bytes. -/
section
set_option linter.unusedVariables false
set_option linter.unusedSimpArgs false
namespace Go.Proofs.YtibalgfejfjndaaGreatDoor
open Go.RowKit

/-- A pair: its key, its bytes, whether it goes; where its bytes lie. -/
structure PV where
  key : ByteArray
  b : List UInt8
  gone : Bool
  A : Option Addr
  c : Nat
def PV.val (p : PV) : Value := .slice p.A p.b.length p.c
def PV.cells (p : PV) : List Value := [.string p.key, p.val, .bool p.gone]
def cellsP (ps : List PV) : List Value := ps.flatMap PV.cells
/-- What of it is compared. -/
def PV.core (p : PV) : ByteArray × List UInt8 × Bool := (p.key, p.b, p.gone)
def PV.Ok (w : World) (p : PV) : Prop := Bs w p.A p.b ∧ (p.A = none → p.c = 0)
structure PC (w : World) (ad : Addr) (p : PV) : Prop where
  c0 : w.cell? ad = some (.string p.key)
  c1 : w.cell? ⟨ad.block, ad.off + 1, none⟩ = some p.val
  c2 : w.cell? ⟨ad.block, ad.off + 2, none⟩ = some (.bool p.gone)
/-- Pairs that can be read. -/
def PsAt (w : World) (A : Option Addr) (ps : List PV) : Prop := ∀ (j : Nat) p, ps[j]? = some p → ∃ ad, A = some ad ∧ PC w (ad.add (j * 3)) p ∧ p.Ok w
theorem PsAt.kept {w w' : World} {A : Option Addr} {ps : List PV} (h : PsAt w A ps) (hk : Kept (fun _ => False) w w') : PsAt w' A ps := fun j p hp => by
  obtain ⟨ad, h1, h2, h3⟩ := h j p hp
  exact ⟨ad, h1, ⟨hk.cell h2.c0 (by simp), hk.cell h2.c1 (by simp), hk.cell h2.c2 (by simp)⟩, h3.1.kept hk (by simp), h3.2⟩
def kb (s : ByteArray) : List UInt8 := s.data.toList
def pairB (p : PV) : List UInt8 := textB (kb p.key) ++ (if p.gone then [1, 0] else 0 :: textB p.b)
/-- Pairs as bytes. -/
def bytesP (ps : List PV) : List UInt8 := zigB ps.length ++ ps.flatMap pairB
theorem flat_snoc (ps : List PV) (k : Nat) (p : PV) (h : ps[k]? = some p) : (ps.take (k + 1)).flatMap pairB = (ps.take k).flatMap pairB ++ pairB p := by
  rw [List.take_add_one, h, List.flatMap_append]; simp
theorem flat_le (ps : List PV) (k : Nat) : ((ps.take k).flatMap pairB).length ≤ (ps.flatMap pairB).length := by
  conv => rhs; rw [← List.take_append_drop k ps, List.flatMap_append, List.length_append]
  omega
/-- []byte of a string: bytes of its own. -/
theorem str_bytes (W : World) (s : ByteArray) : ∃ c W', (convert 9 30 (.string s)).run Tryz.prog W = .ok (.slice (some ⟨W.heap.size, 0, none⟩) s.size c) W' ∧ Bs W' (some ⟨W.heap.size, 0, none⟩) (kb s) ∧ Kept (fun _ => False) W W' := by
  refine ⟨_, _, run_bytes_of_string W 9 30 5 s Tryz.underlying9 Tryz.underlying30 Tryz.underlying5, ⟨fun e => (by cases e), ?_⟩, ((Kept.refl _ W).drew).alloc _⟩
  intro ad e j u hu
  injection e with e
  subst e
  rw [List.getElem?_map] at hu
  have hj : j < s.data.size := by
    rcases Nat.lt_or_ge j s.data.size with h | h
    · exact h
    · rw [List.getElem?_eq_none (by unfold kb; simpa using h)] at hu; cases hu
  have hx : (kb s)[j]? = some s.data[j] := by unfold kb; rw [Array.getElem?_toList]; simp [hj]
  rw [hx] at hu
  simp only [Option.map_some, Option.some.injEq] at hu
  subst hu
  have h9 : (W.drew.alloc (.cells (bytesRow s (grownCap W s.size 0 5)) 5 ((bytesRow s (grownCap W s.size 0 5)).size, (bytesRow s (grownCap W s.size 0 5)).size + 1))).heap[W.heap.size]? = some (.cells (bytesRow s (grownCap W s.size 0 5)) 5 ((bytesRow s (grownCap W s.size 0 5)).size, (bytesRow s (grownCap W s.size 0 5)).size + 1)) := heap_alloc_new W.drew _
  have h8 : (⟨W.heap.size, 0, none⟩ : Addr).add j = ⟨W.heap.size, j, none⟩ := by unfold Addr.add; split <;> simp_all
  rw [h8]
  simp only [World.cell?, h9]
  rw [bytesRow_at s _ j hj]
  rfl
theorem kb_size (s : ByteArray) : (kb s).length = s.size := by simp [kb]
/-- Bytes of a call's own that grow. -/
def Acc (w W : World) (v : Value) (xs : List UInt8) : Prop := W.ownsRow w.heap.size 5 1 v xs.length (xs.map bv) ∧ Kept (fun _ => False) w W
theorem Acc.nil (w : World) : Acc w w (.slice none 0 0) [] := ⟨World.ownsRow_nil _ _ _ _, Kept.refl _ _⟩
theorem Acc.stay {w W W' : World} {v : Value} {xs : List UInt8} (h : Acc w W v xs) (hk : Kept (fun _ => False) W W') : Acc w W' v xs := ⟨own_kept h.1 hk (by simp), h.2.trans' hk⟩
theorem Acc.grow {w W W' : World} {v v' : Value} {xs : List UInt8} {ys : List UInt8} (h : Acc w W v xs) (ho : W'.ownsRow w.heap.size 5 1 v' (xs.length + ys.length) (xs.map bv ++ ys.map bv)) (hg : W.grownBy W' v.ownBlock) : Acc w W' v' (xs ++ ys) :=
  ⟨by rw [List.length_append, List.map_append]; exact ho, h.2.grown hg (fun k e hk => by have := own_ge h.1 k e; omega)⟩
theorem wpList_append_acc {w W : World} {ops : Array Oper} {rest : List Oper} {o : Oper} {a : Act} {Q : Exit → Act → World → Prop} (hgd : o.guard = none) (s x : Operand)
    (ho : o.op = .call { callee := .builtin .append, args := #[s, x], argTypes := #[30, 30] })
    (v : Value) (xs : List UInt8) (hs : a.eval s = v) (hown : Acc w W v xs)
    (A : Option Addr) (m c : Nat) (ys : List UInt8) (hx : a.eval x = .slice A m c) (hB : Bs W A ys) (hm : m = ys.length) (hA : A = none → c = 0) (h63 : xs.length + ys.length ≤ 1000000000)
    (h : ∀ v' w', Acc w w' v' (xs ++ ys) → W.grownBy w' v.ownBlock → wpList Tryz.prog ops Q rest (a.put o.dst v') w') : wpList Tryz.prog ops Q (o :: rest) a W := by
  subst hm
  refine wpList_append_bs hgd s x ho w.heap.size v xs.length _ hs hown.1 A _ c ys hx hB rfl hA h63 hown.2.size ?_
  intro v' w' h1 h2
  exact h v' w' (hown.grow h1 h2) h2
theorem step_append_acc {w W : World} {ops : Array Oper} {o : Oper} {a : Act} {K : Act → World → Prop} {Q : Exit → Act → World → Prop} {E : Prop} (hgd : o.guard = none) (s x : Operand)
    (ho : o.op = .call { callee := .builtin .append, args := #[s, x], argTypes := #[30, 30] })
    (v : Value) (xs : List UInt8) (hs : a.eval s = v) (hown : Acc w W v xs)
    (A : Option Addr) (m c : Nat) (ys : List UInt8) (hx : a.eval x = .slice A m c) (hB : Bs W A ys) (hm : m = ys.length) (hA : A = none → c = 0) (h63 : xs.length + ys.length ≤ 1000000000)
    (h : ∀ v' w', Acc w w' v' (xs ++ ys) → W.grownBy w' v.ownBlock → K (a.put o.dst v') w') : if Region.wanted o (yielded ops a.tmps) = true then Oper.wp Tryz.prog o a W K Q else E := by
  subst hm
  refine step_append_bs hgd s x ho w.heap.size v xs.length _ hs hown.1 A _ c ys hx hB rfl hA h63 hown.2.size ?_
  intro v' w' h1 h2
  exact h v' w' (hown.grow h1 h2) h2
/-- Bytes handed back. -/
theorem ClonePost.acc {w w' : World} {xs : List UInt8} {e : Ending} (h : ClonePost w xs e w') : ∃ A c, e = .returned (.slice A xs.length c) ∧ Acc w w' (.slice A xs.length c) xs ∧ Bs w' A xs ∧ (A = none → c = 0) := by
  obtain ⟨v, rfl, ho, hk⟩ := h
  obtain ⟨A, c, rfl, -, hb, hA, -⟩ := Bs.of_own ho
  exact ⟨A, c, rfl, ⟨ho, hk⟩, hb, hA⟩
section
variable {W W' : World} {D : Nat} {p : PV}
end
end Go.Proofs.YtibalgfejfjndaaGreatDoor
end

/-! keyed.Bytes: pairs as bytes. -/
section
set_option linter.unusedVariables false
set_option linter.unusedSimpArgs false
namespace Go.Proofs.YtibalgfejfjndaaGreatDoor
open Go.RowKit

theorem pairs_le (ps : List PV) : ps.length ≤ (ps.flatMap pairB).length := by
  induction ps with
  | nil => simp
  | cons q qs ih =>
    have : 1 ≤ (pairB q).length := by unfold pairB; split <;> simp <;> omega
    rw [List.flatMap_cons, List.length_append, List.length_cons]; omega
theorem bytesP_le {ps : List PV} {n m : Nat} (hn : n = ps.length) (h : (bytesP ps).length ≤ m) : n ≤ m := by
  have := pairs_le ps
  simp only [bytesP, List.length_append] at h
  omega
theorem part_le {ps : List PV} {k m : Nat} {p : PV} (hp : ps[k]? = some p) (h : (bytesP ps).length ≤ m) : (zigB ps.length).length + ((ps.take k).flatMap pairB).length + (pairB p).length ≤ m := by
  have h1 := flat_le ps (k + 1)
  rw [flat_snoc ps k p hp, List.length_append] at h1
  simp only [bytesP, List.length_append] at h
  omega
theorem num_le {ps : List PV} {n k m : Nat} {key : ByteArray} {b : List UInt8} {gone : Bool} {pA : Option Addr} {pc : Nat} (hn : n = ps.length) (hp : ps[k]? = some ⟨key, b, gone, pA, pc⟩) (h : (bytesP ps).length ≤ m) :
    (zigB n ++ (ps.take k).flatMap pairB).length + (textB (kb key)).length + 2 ≤ m ∧ (gone = false → (zigB n ++ (ps.take k).flatMap pairB).length + (textB (kb key)).length + 1 + (textB b).length ≤ m) := by
  have := part_le hp h
  subst hn
  simp only [List.length_append]
  cases gone
  · simp only [pairB, List.length_append, if_false, Bool.false_eq_true, List.length_cons] at this
    have h2 : 1 ≤ (textB b).length := by
      have := (numB_len (2 * b.length)).1
      rw [textB_len]; unfold zigB; omega
    exact ⟨by omega, fun _ => by omega⟩
  · simp only [pairB, List.length_append, if_true, List.length_cons, List.length_nil] at this
    exact ⟨by omega, fun e => by cases e⟩
theorem textB_nil_len : (textB []).length = 1 := by decide
theorem textB_ge (b : List UInt8) : b.length ≤ (textB b).length := by rw [textB_len]; omega
end Go.Proofs.YtibalgfejfjndaaGreatDoor
end

/-! courantref22.Bytes: pairs as bytes. -/
section
set_option linter.unusedVariables false
set_option linter.unusedSimpArgs false
namespace Go.Proofs.YtibalgfejfjndaaGreatDoor
open Go.RowKit

end Go.Proofs.YtibalgfejfjndaaGreatDoor
end

/-! code.Reader: how it lies; New, Num, Zig, Raw, Text over bytes that were made. -/
section
set_option linter.unusedVariables false
set_option linter.unusedSimpArgs false
namespace Go.Proofs.YtibalgfejfjndaaGreatDoor
open Go.RowKit

section
variable {w w' : World} {R k : Nat} {v : Value}
end
section
variable {w w' : World} {R k n c : Nat} {A : Option Addr} {xs : List UInt8}
end
theorem and127 (x : Nat) (h : x < 256) : bits .and .u8 (x : Int) 127 = ((x % 128 : Nat) : Int) := by
  have h1 : (BitVec.ofInt 8 (x : Int)).toNat = x := by
    rw [BitVec.ofInt_natCast, BitVec.toNat_ofNat]; exact Nat.mod_eq_of_lt (by omega)
  have h2 : x &&& 127 = x % 128 := Nat.and_two_pow_sub_one_eq_mod x 7
  show IntKind.u8.wrap ((BitVec.ofInt 8 (x : Int) &&& BitVec.ofInt 8 127).toNat : Int) = _
  rw [BitVec.toNat_and, h1, show (BitVec.ofInt 8 127).toNat = 127 from rfl, h2, IntKind.wrap_u8]
  omega
theorem orAdd (x y m : Nat) (hx : x < 2 ^ m) (h : x + y * 2 ^ m < 18446744073709551616) : bits .or .u64 (x : Int) ((y * 2 ^ m : Nat) : Int) = ((x + y * 2 ^ m : Nat) : Int) := by
  have h1 : (BitVec.ofInt 64 (x : Int)).toNat = x := by
    rw [BitVec.ofInt_natCast, BitVec.toNat_ofNat]; exact Nat.mod_eq_of_lt (by omega)
  have h2 : (BitVec.ofInt 64 ((y * 2 ^ m : Nat) : Int)).toNat = y * 2 ^ m := by
    rw [BitVec.ofInt_natCast, BitVec.toNat_ofNat]; exact Nat.mod_eq_of_lt (by omega)
  have h3 : x ||| y * 2 ^ m = x + y * 2 ^ m := by
    have := Nat.two_pow_add_eq_or_of_lt (i := m) (b := x) hx y
    rw [Nat.or_comm, Nat.mul_comm y, ← this, Nat.add_comm]
  show IntKind.u64.wrap ((BitVec.ofInt 64 (x : Int) ||| BitVec.ofInt 64 ((y * 2 ^ m : Nat) : Int)).toNat : Int) = _
  rw [BitVec.toNat_or, h1, h2, h3, IntKind.wrap_u64]
  omega
theorem pow128 (j : Nat) : 128 ^ j = 2 ^ (7 * j) := by rw [Nat.pow_mul]
theorem bs_at {w : World} {ad : Addr} {xs : List UInt8} {k : Nat} {x : UInt8} (h : Bs w (some ad) xs) (hx : xs[k]? = some x) : w.cell? (ad.add k) = some (.int .u8 (x.toNat : Nat)) := h.2 ad rfl k _ (by rw [List.getElem?_map, hx]; rfl)
/-- What one more byte does to a number. -/
theorem num_step {acc U j V : Nat} (hV : V ≤ 2000000000000) (he : acc + U * 128 ^ j = V) (ha : acc < 128 ^ j) (hU : 0 < j → 1 ≤ U) : j ≤ 5 ∧ acc ≤ 2000000000000 ∧ U ≤ 2000000000000 ∧ U % 128 * 2 ^ (7 * j) ≤ 2000000000000 ∧ acc + U % 128 * 2 ^ (7 * j) + U / 128 * 128 ^ (j + 1) = V ∧ acc + U % 128 * 2 ^ (7 * j) < 128 ^ (j + 1) ∧ acc < 2 ^ (7 * j) := by
  rw [← pow128]
  have h1 : U * 1 ≤ U * 128 ^ j := Nat.mul_le_mul_left _ (Nat.one_le_pow _ _ (by omega))
  have h2 : U % 128 * 128 ^ j ≤ U * 128 ^ j := Nat.mul_le_mul_right _ (by omega)
  have h3 : U * 128 ^ j = U % 128 * 128 ^ j + U / 128 * 128 ^ (j + 1) := by
    rw [Nat.pow_succ, ← Nat.mul_assoc, Nat.mul_right_comm, ← Nat.add_mul]
    congr 1
    omega
  have h4 : U % 128 * 128 ^ j ≤ 127 * 128 ^ j := Nat.mul_le_mul_right _ (by omega)
  refine ⟨?_, by omega, by omega, by omega, by omega, by rw [Nat.pow_succ]; omega, ha⟩
  rcases Nat.lt_or_ge 5 j with h | h
  · have h5 : 128 ^ 6 ≤ 128 ^ j := Nat.pow_le_pow_right (by omega) h
    have h6 : 1 * 128 ^ j ≤ U * 128 ^ j := Nat.mul_le_mul_right _ (hU (by omega))
    have h7 : (128 : Nat) ^ 6 = 4398046511104 := by decide
    omega
  · exact h
end Go.Proofs.YtibalgfejfjndaaGreatDoor
end

/-! couranthelp.Pair; courantlaw23.few. -/
section
set_option linter.unusedVariables false
set_option linter.unusedSimpArgs false
namespace Go.Proofs.YtibalgfejfjndaaGreatDoor
open Go.RowKit

theorem PV.Ok.kept {w w' : World} {p : PV} (h : p.Ok w) (hk : Kept (fun _ => False) w w') : p.Ok w' := ⟨h.1.kept hk (by simp), h.2⟩
end Go.Proofs.YtibalgfejfjndaaGreatDoor
end

/-! couranthelp.Same over pairs; courantlaw23.pairs. -/
section
set_option linter.unusedVariables false
set_option linter.unusedSimpArgs false
namespace Go.Proofs.YtibalgfejfjndaaGreatDoor
open Go.RowKit

theorem core_snoc {ps qs : List PV} {k : Nat} {p q : PV} (hp : ps[k]? = some p) (hq : qs[k]? = some q) (h : (ps.take k).map PV.core = (qs.take k).map PV.core) (he : p.core = q.core) : (ps.take (k + 1)).map PV.core = (qs.take (k + 1)).map PV.core := by
  rw [List.take_add_one, List.take_add_one, hp, hq, List.map_append, List.map_append, h]; simp [he]
theorem core_no {ps qs : List PV} {k : Nat} {p q : PV} (hp : ps[k]? = some p) (hq : qs[k]? = some q) (he : p.core ≠ q.core) : ps.map PV.core ≠ qs.map PV.core := by
  intro e
  have := congrArg (fun l => l[k]?) e
  simp only [List.getElem?_map, hp, hq, Option.map_some, Option.some.injEq] at this
  exact he this
end Go.Proofs.YtibalgfejfjndaaGreatDoor
end

/-! courantlaw23.few; slices.Clone over pairs; couranthelp.CopyPairs. -/
section
set_option linter.unusedVariables false
set_option linter.unusedSimpArgs false
namespace Go.Proofs.YtibalgfejfjndaaGreatDoor
open Go.RowKit

def PV.Sz (p : PV) : Prop := p.key.size ≤ 140737488355328 ∧ p.b.length ≤ 140737488355328
def wt (p : PV) : Nat := p.key.size + p.b.length + 10
def fewN (ps : List PV) : Nat := ((ps.take 50).map wt).sum
def fewP (ps : List PV) : Bool := decide (ps.length < 50) && decide (fewN ps < 3000)
theorem few_snoc (ps : List PV) (k : Nat) (p : PV) (h : ps[k]? = some p) : ((ps.take (k + 1)).map wt).sum = ((ps.take k).map wt).sum + wt p := by
  rw [List.take_add_one, h]; simp
theorem drewN2 (w : World) (a b : Nat) : (w.drewN a).drewN b = w.drewN (a + b) := by simp [World.drewN, Nat.add_assoc]
end Go.Proofs.YtibalgfejfjndaaGreatDoor
end

/-! Rows of pairs of a call's own. -/
section
set_option linter.unusedVariables false
set_option linter.unusedSimpArgs false
namespace Go.Proofs.YtibalgfejfjndaaGreatDoor
open Go.RowKit

theorem cellsP_len (rs : List PV) : (cellsP rs).length = 3 * rs.length := by
  induction rs with
  | nil => rfl
  | cons r rs ih =>
    have : (cellsP (r :: rs)).length = 3 + (cellsP rs).length := by simp [cellsP, PV.cells]; omega
    rw [this, ih, List.length_cons]; omega
theorem cellsP_append (a b : List PV) : cellsP (a ++ b) = cellsP a ++ cellsP b := by simp [cellsP]
theorem cellsP_one (rs : List PV) : ∀ u ∈ cellsP rs, u.oneCell' = true := by
  intro u hu
  simp only [cellsP, List.mem_flatMap] at hu
  obtain ⟨r, hr, hu⟩ := hu
  simp only [PV.cells, List.mem_cons, List.not_mem_nil, or_false] at hu
  rcases hu with rfl | rfl | rfl <;> rfl
theorem cellsP_at (rs : List PV) (k : Nat) (r : PV) (h : rs[k]? = some r) (i : Nat) (hi : i < 3) : (cellsP rs)[3 * k + i]? = r.cells[i]? := by
  induction rs generalizing k with
  | nil => simp at h
  | cons q rs ih =>
    have e : cellsP (q :: rs) = q.cells ++ cellsP rs := rfl
    have hq : q.cells.length = 3 := rfl
    cases k with
    | zero =>
      simp at h; subst h
      rw [e, List.getElem?_append_left (by rw [hq]; omega)]; congr 1; omega
    | succ k =>
      simp at h
      rw [e, List.getElem?_append_right (by rw [hq]; omega), hq, show 3 * (k + 1) + i - 3 = 3 * k + i by omega]
      exact ih k h
/-- The other way: which pair a cell is of. -/
theorem cellsP_of (rs : List PV) (j : Nat) (u : Value) (h : (cellsP rs)[j]? = some u) : ∃ k i r, j = 3 * k + i ∧ i < 3 ∧ rs[k]? = some r ∧ r.cells[i]? = some u := by
  have hj := (List.getElem?_eq_some_iff.1 h).1
  rw [cellsP_len] at hj
  obtain ⟨r, hr⟩ : ∃ r, rs[j / 3]? = some r := ⟨_, List.getElem?_eq_getElem (by omega)⟩
  refine ⟨j / 3, j % 3, r, by omega, by omega, hr, ?_⟩
  rw [← cellsP_at rs (j / 3) r hr (j % 3) (by omega), show 3 * (j / 3) + j % 3 = j by omega, h]
theorem PsAt.cs {w : World} {A : Option Addr} {ps : List PV} (h : PsAt w A ps) : Cs w A (cellsP ps) := by
  refine ⟨fun e => ?_, fun ad e j u hu => ?_⟩
  · cases ps with
    | nil => rfl
    | cons p ps => obtain ⟨ad, h1, _⟩ := h 0 p rfl; rw [e] at h1; cases h1
  · obtain ⟨k, i, r, rfl, hi, hr, hc⟩ := cellsP_of ps j u hu
    obtain ⟨ad', h1, h2, _⟩ := h k r hr
    rw [e] at h1; injection h1 with h1; subst h1
    have hadd : ∀ i, ad.add (3 * k + i) = (if i = 0 then ad.add (k * 3) else ⟨(ad.add (k * 3)).block, (ad.add (k * 3)).off + i, none⟩) := by
      intro i
      by_cases h0 : i = 0
      · subst h0; rw [if_pos rfl, Nat.add_zero, Nat.mul_comm]
      · have h1 : (ad.add (k * 3)).block = ad.block := add_block ad _
        have h2 : (ad.add (k * 3)).off = ad.off + k * 3 := by
          unfold Addr.add; split
          · omega
          · rfl
        rw [if_neg h0, h1, h2]
        unfold Addr.add
        rw [if_neg (by omega), show ad.off + (3 * k + i) = ad.off + k * 3 + i by omega]
    have i3 : i = 0 ∨ i = 1 ∨ i = 2 := by omega
    rcases i3 with rfl | rfl | rfl
    · have hu' : u = .string r.key := by simpa [PV.cells] using hc.symm
      rw [hadd, hu']; simpa using h2.c0
    · have hu' : u = r.val := by simpa [PV.cells] using hc.symm
      rw [hadd, hu']; simpa using h2.c1
    · have hu' : u = .bool r.gone := by simpa [PV.cells] using hc.symm
      rw [hadd, hu']; simpa using h2.c2
theorem PV.ok_own {W : World} {base : Nat} {p : PV} (h : W.ownsRow base 5 1 p.val p.b.length (p.b.map bv)) : p.Ok W := by
  obtain ⟨A, c, hv, -, hb, hA, -⟩ := Bs.of_own h
  simp only [PV.val, Value.slice.injEq] at hv
  obtain ⟨rfl, -, rfl⟩ := hv
  exact ⟨hb, hA⟩
section
variable {w W W' : World} {v v' : Value} {qs : List PV}
end
end Go.Proofs.YtibalgfejfjndaaGreatDoor
end

/-! couranthelp.CopyPairs; slices.Clone over pairs. -/
section
set_option linter.unusedVariables false
set_option linter.unusedSimpArgs false
namespace Go.Proofs.YtibalgfejfjndaaGreatDoor
open Go.RowKit

theorem own_low {w : World} {b1 b2 e size n : Nat} {v : Value} {xs : List Value} (h : w.ownsRow b1 e size v n xs) (hb : b2 ≤ b1) : w.ownsRow b2 e size v n xs := by
  refine ⟨h.1, h.2.imp id ?_⟩
  rintro ⟨g, cap, cur, h1, h2, h3⟩
  exact ⟨g, cap, cur, h1, Nat.le_trans hb h2, h3⟩
end Go.Proofs.YtibalgfejfjndaaGreatDoor
end

/-! courantref22.at; keyed.place. -/
section
set_option linter.unusedVariables false
set_option linter.unusedSimpArgs false
namespace Go.Proofs.YtibalgfejfjndaaGreatDoor
open Go.RowKit

/-- Where a name stands, or would. -/
def atP (rs : List PV) (x : List UInt8) : Nat := (rs.takeWhile fun r => decide (kb r.key < x)).length
theorem atP_le (rs : List PV) (x : List UInt8) : atP rs x ≤ rs.length := (List.takeWhile_sublist _).length_le
theorem atP_eq {rs : List PV} {x : List UInt8} {k : Nat} (h : ∀ j r, j < k → rs[j]? = some r → kb r.key < x) (h2 : k = rs.length ∨ ∃ r, rs[k]? = some r ∧ ¬ kb r.key < x) (hk : k ≤ rs.length) : atP rs x = k := by
  unfold atP
  induction rs generalizing k with
  | nil => simp at hk; simp [hk]
  | cons q rs ih =>
    cases k with
    | zero =>
      rcases h2 with h2 | ⟨r, hr, hx⟩
      · simp at h2
      · simp at hr; subst hr
        simp [List.takeWhile_cons, hx]
    | succ k =>
      have hq := h 0 q (by omega) rfl
      rw [List.takeWhile_cons, if_pos (by simpa using hq), List.length_cons]
      rw [ih (k := k) (fun j r hj hr => h (j + 1) r (by omega) (by simpa using hr)) (by rcases h2 with h2 | ⟨r, hr, hx⟩; exact .inl (by simpa using h2); exact .inr ⟨r, by simpa using hr, hx⟩) (by simpa using hk)]
/-- Does a key stand there? -/
def isP (ps : List PV) (s : ByteArray) : Bool := match ps[atP ps (kb s)]? with | some p => decide (p.key = s) | none => false
end Go.Proofs.YtibalgfejfjndaaGreatDoor
end

/-! Parts of rows of pairs; what Put makes of lists (plain). -/
section
set_option linter.unusedVariables false
set_option linter.unusedSimpArgs false
namespace Go.Proofs.YtibalgfejfjndaaGreatDoor
open Go.RowKit

theorem add_add3 (ad : Addr) (k j : Nat) : (ad.add (k * 3)).add (j * 3) = ad.add ((k + j) * 3) := by
  obtain ⟨b, o, s⟩ := ad
  unfold Addr.add
  by_cases h1 : k = 0 <;> by_cases h2 : j = 0
  · subst h1; subst h2; simp
  · subst h1; simp [h2]
  · subst h2; simp [h1]
  · rw [if_neg (by omega), if_neg (by omega), if_neg (by omega)]
    simp only [Addr.mk.injEq, true_and, and_true]
    omega
theorem PsAt.take {w : World} {A : Option Addr} {ps : List PV} (h : PsAt w A ps) (k : Nat) : PsAt w A (ps.take k) := fun j p hp => by
  rw [List.getElem?_take] at hp
  split at hp
  · exact h j p hp
  · cases hp
theorem PsAt.drop {w : World} {A : Option Addr} {ps : List PV} (h : PsAt w A ps) (k : Nat) : PsAt w (A.map (·.add (k * 3))) (ps.drop k) := fun j p hp => by
  rw [List.getElem?_drop] at hp
  obtain ⟨ad, h1, h2, h3⟩ := h _ p hp
  refine ⟨ad.add (k * 3), by rw [h1]; rfl, ?_, h3⟩
  rw [add_add3]
  exact h2
theorem PsAt.nil (w : World) (A : Option Addr) : PsAt w A [] := fun j p hp => by simp at hp
/-- What Put does with one pair, by what is compared. -/
abbrev Core := ByteArray × List UInt8 × Bool
def coreAt (l : List Core) (x : ByteArray) : Nat := (l.takeWhile fun c => decide (kb c.1 < kb x)).length
def coreIs (l : List Core) (x : ByteArray) : Bool := match l[coreAt l x]? with | some c => decide (c.1 = x) | none => false
def put1 (l : List Core) (c : Core) : List Core := l.take (coreAt l c.1) ++ (if c.2.2 then [] else [(c.1, c.2.1, false)]) ++ l.drop (if coreIs l c.1 then coreAt l c.1 + 1 else coreAt l c.1)
def putC (l ms : List Core) : List Core := ms.foldl put1 l
theorem coreAt_map (ps : List PV) (x : ByteArray) : coreAt (ps.map PV.core) x = atP ps (kb x) := by
  unfold coreAt atP
  rw [List.takeWhile_map, List.length_map]
  rfl
theorem coreIs_map (ps : List PV) (x : ByteArray) : coreIs (ps.map PV.core) x = isP ps x := by
  unfold coreIs isP
  rw [coreAt_map, List.getElem?_map]
  cases ps[atP ps (kb x)]? <;> rfl
theorem atP_le' (ps : List PV) (x : List UInt8) : atP ps x ≤ ps.length := atP_le ps x
/-- The list that comes of it, with its own bytes. -/
def new1 (qs : List PV) (p q : PV) : List PV := qs.take (atP qs (kb p.key)) ++ (if p.gone then [] else [q]) ++ qs.drop (if isP qs p.key then atP qs (kb p.key) + 1 else atP qs (kb p.key))
theorem new1_core (qs : List PV) (p q : PV) (h : q.core = (p.key, p.b, false)) : (new1 qs p q).map PV.core = put1 (qs.map PV.core) p.core := by
  unfold new1 put1
  show _ = (qs.map PV.core).take (coreAt (qs.map PV.core) p.key) ++ (if p.gone then [] else [(p.key, p.b, false)]) ++ (qs.map PV.core).drop (if coreIs (qs.map PV.core) p.key then coreAt (qs.map PV.core) p.key + 1 else coreAt (qs.map PV.core) p.key)
  rw [coreAt_map, coreIs_map, List.map_append, List.map_append, List.map_take, List.map_drop]
  cases p.gone <;> simp [h]
theorem isP_lt {ps : List PV} {x : ByteArray} (h : isP ps x = true) : atP ps (kb x) < ps.length := by
  unfold isP at h
  split at h
  · rename_i p hp; exact (List.getElem?_eq_some_iff.1 hp).1
  · cases h
theorem new1_len (qs : List PV) (p q : PV) : (new1 qs p q).length ≤ qs.length + 1 := by
  unfold new1
  have := atP_le' qs (kb p.key)
  simp only [List.length_append, List.length_take, List.length_drop]
  split <;> split <;> simp <;> omega
theorem putC_snoc (l ms : List Core) (k : Nat) (c : Core) (h : ms[k]? = some c) : putC l (ms.take (k + 1)) = put1 (putC l (ms.take k)) c := by
  unfold putC
  rw [List.take_add_one, h, List.foldl_append]
  rfl
section
variable {w W3 W W' : World} {v v' : Value} {qs : List PV}
end
theorem mem_take {qs : List PV} {k : Nat} : ∀ r ∈ qs.take k, r ∈ qs := fun r h => List.mem_of_mem_take h
theorem mem_drop {qs : List PV} {k : Nat} : ∀ r ∈ qs.drop k, r ∈ qs := fun r h => List.mem_of_mem_drop h
end Go.Proofs.YtibalgfejfjndaaGreatDoor
end

/-! Rows of pairs that are written in place: append within the room, clear, copy; slices.Delete. -/
section
set_option linter.unusedVariables false
set_option linter.unusedSimpArgs false
namespace Go.Proofs.YtibalgfejfjndaaGreatDoor
open Go.RowKit

def splice (l : List Value) (o : Nat) (vs : List Value) : List Value := l.take o ++ vs ++ l.drop (o + vs.length)
theorem splice_len {l : List Value} {o : Nat} {vs : List Value} (h : o + vs.length ≤ l.length) : (splice l o vs).length = l.length := by
  simp only [splice, List.length_append, List.length_take, List.length_drop]; omega
def zerosP : List Value := [.string ⟨#[]⟩, .slice none 0 0, .bool false]
theorem cellsP_take (qs : List PV) (i : Nat) : (cellsP qs).take (i * 3) = cellsP (qs.take i) := by
  conv => lhs; rw [← List.take_append_drop i qs, cellsP_append]
  rcases Nat.le_total i qs.length with h | h
  · rw [List.take_left' (by rw [cellsP_len, List.length_take]; omega)]
  · rw [List.take_of_length_le (by rw [List.length_append, cellsP_len, cellsP_len, List.length_take, List.length_drop]; omega), List.drop_eq_nil_of_le h]
    simp [cellsP]
theorem take_cells {l : List Value} {qs : List PV} (h : l.take (3 * qs.length) = cellsP qs) (i : Nat) (hi : i ≤ qs.length) : l.take (i * 3) = cellsP (qs.take i) := by
  rw [← cellsP_take, ← h, List.take_take, Nat.min_eq_left (by omega)]
/-- What Delete leaves of the row. -/
theorem del_cells {l : List Value} {qs : List PV} {cap i : Nat} (h : l.take (3 * qs.length) = cellsP qs) (hl : l.length = cap * 3) (hc : qs.length ≤ cap) (hi : i < qs.length) :
    (splice (splice l (i * 3) (cellsP (qs.drop (i + 1)))) ((qs.length - 1) * 3) zerosP).take (3 * (qs.take i ++ qs.drop (i + 1)).length) = cellsP (qs.take i ++ qs.drop (i + 1)) := by
  have hlen : (qs.take i ++ qs.drop (i + 1)).length = qs.length - 1 := by simp only [List.length_append, List.length_take, List.length_drop]; omega
  have h1 : (splice l (i * 3) (cellsP (qs.drop (i + 1)))).take ((qs.length - 1) * 3) = cellsP (qs.take i ++ qs.drop (i + 1)) := by
    unfold splice
    rw [List.take_left' (by simp only [List.length_append, List.length_take, cellsP_len, List.length_drop]; omega), take_cells h i (by omega), cellsP_append]
  rw [hlen, Nat.mul_comm 3]
  unfold splice at *
  rw [List.append_assoc, List.take_left' (by simp only [List.length_append, List.length_take, cellsP_len, List.length_drop]; omega), h1]
/-- A builtin whose run is known, at a step of a region that draws; in a list of operations. -/
theorem step_append_run {w : World} {ops : Array Oper} {o : Oper} {a : Act} {K : Act → World → Prop} {Q : Exit → Act → World → Prop} {E : Prop} (hgd : o.guard = none) (s x : Operand) (t1 t2 : TypeId)
    (ho : o.op = .call { callee := .builtin .append, args := #[s, x], argTypes := #[t1, t2] }) (vs vx : Value) (hs : a.eval s = vs) (hx : a.eval x = vx) (v' : Value) (w' : World)
    (hrun : ∀ ty, (Builtin.append_ #[t1, t2] ty #[vs, vx]).run Tryz.prog w = .ok v' w') (h : K (a.put o.dst v') w') : if Region.wanted o (yielded ops a.tmps) = true then Oper.wp Tryz.prog o a w K Q else E := by
  have hw : Region.wanted o (yielded ops a.tmps) = true := by simp [Region.wanted, hgd]
  rw [if_pos hw]
  unfold Oper.wp
  simp [execOp, ho, resolve, invoke, builtin, hs, hx, hrun, Result.andThen]
  exact h
theorem step_copy_run {w : World} {ops : Array Oper} {o : Oper} {a : Act} {K : Act → World → Prop} {Q : Exit → Act → World → Prop} {E : Prop} (hgd : o.guard = none) (s x : Operand) (t1 t2 : TypeId)
    (ho : o.op = .call { callee := .builtin .copy, args := #[s, x], argTypes := #[t1, t2] }) (vs vx : Value) (hs : a.eval s = vs) (hx : a.eval x = vx) (v' : Value) (w' : World)
    (hrun : ∀ ty, (Builtin.copy_ #[t1, t2] ty #[vs, vx]).run Tryz.prog w = .ok v' w') (h : K (a.put o.dst v') w') : if Region.wanted o (yielded ops a.tmps) = true then Oper.wp Tryz.prog o a w K Q else E := by
  have hw : Region.wanted o (yielded ops a.tmps) = true := by simp [Region.wanted, hgd]
  rw [if_pos hw]
  unfold Oper.wp
  simp [execOp, ho, resolve, invoke, builtin, hs, hx, hrun, Result.andThen]
  exact h
end Go.Proofs.YtibalgfejfjndaaGreatDoor
end

/-! slices.Delete of one pair. -/
section
set_option linter.unusedVariables false
set_option linter.unusedSimpArgs false
namespace Go.Proofs.YtibalgfejfjndaaGreatDoor
open Go.RowKit

theorem cellsP_drop (qs : List PV) (i : Nat) : cellsP (qs.drop i) = (cellsP qs).drop (i * 3) := by
  have h := cellsP_append (qs.take i) (qs.drop i)
  rw [List.take_append_drop, ← cellsP_take] at h
  have h2 := List.take_append_drop (i * 3) (cellsP qs)
  exact (List.append_cancel_left (h2.trans h)).symm
theorem add_addN (ad : Addr) (k j : Nat) (hs : ad.spot = none) : (ad.add k).add j = ad.add (k + j) := by
  obtain ⟨b, o, s⟩ := ad
  simp only at hs
  subst hs
  unfold Addr.add
  by_cases h1 : k = 0 <;> by_cases h2 : j = 0
  · subst h1; subst h2; simp
  · subst h1; simp [h2]
  · subst h2; simp [h1]
  · rw [if_neg (by omega), if_neg (by omega), if_neg (by omega)]
    simp only [Addr.mk.injEq, true_and, and_true]
    omega
end Go.Proofs.YtibalgfejfjndaaGreatDoor
end

/-! slices.Insert of one pair: what it leaves (plain), its steps as run equations. -/
section
set_option linter.unusedVariables false
set_option linter.unusedSimpArgs false
namespace Go.Proofs.YtibalgfejfjndaaGreatDoor
open Go.RowKit

theorem cellsP_single (p : PV) : cellsP [p] = p.cells := by simp [cellsP]
/-- First what is moved, then the new one. -/
theorem ins_cells {l : List Value} {qs : List PV} {cap i : Nat} (p : PV) (h : l.take (3 * qs.length) = cellsP qs) (hl : l.length = cap * 3) (hc : qs.length + 1 ≤ cap) (hi : i ≤ qs.length) :
    (splice (splice l ((i + 1) * 3) (cellsP (qs.drop i))) (i * 3) p.cells).take (3 * (qs.take i ++ [p] ++ qs.drop i).length) = cellsP (qs.take i ++ [p] ++ qs.drop i) := by
  have hlen : (qs.take i ++ [p] ++ qs.drop i).length = qs.length + 1 := by simp only [List.length_append, List.length_take, List.length_drop, List.length_cons, List.length_nil]; omega
  have hp : p.cells.length = 3 := rfl
  have h1 : (splice l ((i + 1) * 3) (cellsP (qs.drop i))).take (i * 3) = cellsP (qs.take i) := by
    unfold splice
    rw [List.append_assoc, List.take_append_of_le_length (by rw [List.length_take]; omega), List.take_take, Nat.min_eq_left (by omega), take_cells h i hi]
  have h2 : (splice l ((i + 1) * 3) (cellsP (qs.drop i))).drop (i * 3 + p.cells.length) = cellsP (qs.drop i) ++ l.drop ((i + 1) * 3 + (cellsP (qs.drop i)).length) := by
    unfold splice
    rw [List.append_assoc, List.drop_left' (by rw [List.length_take, hp]; omega)]
  rw [hlen]
  unfold splice at h1 h2 ⊢
  rw [h1, h2, ← List.append_assoc, ← cellsP_single p, ← cellsP_append, ← cellsP_append, List.take_left' (by rw [cellsP_len, hlen])]
/-- First the new one, then what is moved, from elsewhere. -/
theorem ins_cells2 {l : List Value} {qs : List PV} {cap i : Nat} (p : PV) (h : l.take (i * 3) = cellsP (qs.take i)) (hl : l.length = cap * 3) (hc : qs.length + 1 ≤ cap) (hi : i ≤ qs.length) :
    (splice (splice l (i * 3) p.cells) ((i + 1) * 3) (cellsP (qs.drop i))).take (3 * (qs.take i ++ [p] ++ qs.drop i).length) = cellsP (qs.take i ++ [p] ++ qs.drop i) := by
  have hlen : (qs.take i ++ [p] ++ qs.drop i).length = qs.length + 1 := by simp only [List.length_append, List.length_take, List.length_drop, List.length_cons, List.length_nil]; omega
  have hp : p.cells.length = 3 := rfl
  have h1 : (splice l (i * 3) p.cells).take ((i + 1) * 3) = cellsP (qs.take i ++ [p]) := by
    unfold splice
    rw [List.take_left' (by rw [List.length_append, List.length_take, hp]; omega), h, cellsP_append, cellsP_single]
  rw [hlen]
  have h9 : splice (splice l (i * 3) p.cells) ((i + 1) * 3) (cellsP (qs.drop i)) = cellsP (qs.take i ++ [p]) ++ cellsP (qs.drop i) ++ (splice l (i * 3) p.cells).drop ((i + 1) * 3 + (cellsP (qs.drop i)).length) := by
    conv => lhs; unfold splice
    rw [show List.take (i * 3) l ++ p.cells ++ List.drop (i * 3 + p.cells.length) l = splice l (i * 3) p.cells from rfl, h1]
  rw [h9, ← cellsP_append, List.take_left' (by rw [cellsP_len, hlen])]
end Go.Proofs.YtibalgfejfjndaaGreatDoor
end

/-! slices.Insert of one pair. -/
section
set_option linter.unusedVariables false
set_option linter.unusedSimpArgs false
namespace Go.Proofs.YtibalgfejfjndaaGreatDoor
open Go.RowKit

theorem nmin_r {a b : Nat} (h : b ≤ a) : Nat.min a b = b := Nat.min_eq_right h
theorem nmin_l {a b : Nat} (h : a ≤ b) : Nat.min a b = a := Nat.min_eq_left h
theorem pcells_one (p : PV) : ∀ u ∈ p.cells, u.oneCell' = true := by
  intro u hu
  simp only [PV.cells, List.mem_cons, List.not_mem_nil, or_false] at hu
  rcases hu with rfl | rfl | rfl <;> rfl
end Go.Proofs.YtibalgfejfjndaaGreatDoor
end

/-! slices.Values over pairs, in order. -/
section
set_option linter.unusedVariables false
set_option linter.unusedSimpArgs false
namespace Go.Proofs.YtibalgfejfjndaaGreatDoor
open Go.RowKit Go.Sort

/-- Pairs whose cells can be read. -/
def PsC (w : World) (A : Option Addr) (ps : List PV) : Prop := ∀ (j : Nat) p, ps[j]? = some p → ∃ ad, A = some ad ∧ PC w (ad.add (j * 3)) p
theorem PsAt.c {w : World} {A : Option Addr} {ps : List PV} (h : PsAt w A ps) : PsC w A ps := fun j p hp => by
  obtain ⟨ad, h1, h2, _⟩ := h j p hp
  exact ⟨ad, h1, h2⟩
theorem PsC.same {w w' : World} {A : Option Addr} {ps : List PV} (h : PsC w A ps) (hk : ∀ k, rdOf A k → w'.heap[k]? = w.heap[k]?) : PsC w' A ps := by
  intro j p hp
  obtain ⟨ad, rfl, hc⟩ := h j p hp
  have hb : w'.heap[(ad.add (j * 3)).block]? = w.heap[(ad.add (j * 3)).block]? := by rw [add_block]; exact hk _ ⟨ad, rfl, rfl⟩
  exact ⟨ad, rfl, ⟨(World.cell?_of_block hb).trans hc.c0, (World.cell?_of_block (a := ⟨(ad.add (j * 3)).block, (ad.add (j * 3)).off + 1, none⟩) hb).trans hc.c1, (World.cell?_of_block (a := ⟨(ad.add (j * 3)).block, (ad.add (j * 3)).off + 2, none⟩) hb).trans hc.c2⟩⟩
def encP (p : PV) : Array Value := #[.agg #[.string p.key, .slice p.A p.b.length p.c, .bool p.gone]]
end Go.Proofs.YtibalgfejfjndaaGreatDoor
end
