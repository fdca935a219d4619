import Derived.Test.YtefpigakhhfcaaaDoorMan
import Derived.Test.YtefpigakhhfcaaaDoorMac
import Derived.Test.YtefpigakhhfcaaaDoorMab
import Derived.Laws.IdiomStrings
import Derived.Laws.BytesString
import Derived.Test.YtefpigakhhfcaaaDoorMai
import Derived.Test.YtefpigakhhfcaaaDoorMaj
import Derived.Test.YtefpigakhhfcaaaDoorMam
import Derived.Deep.Cut
import Derived.ProofKit
import Derived.Below
import Derived.Laws.MakeOwn
import Derived.Laws.OwnMore
import Derived.Test.YtefpigakhhfcaaaDoorMaf
/-! Package files: Start. -/
section
set_option linter.unusedVariables false
set_option linter.unusedSimpArgs false
namespace Go.Proofs.YtefpigakhhfcaaaDoor
open Go.RowKit

end Go.Proofs.YtefpigakhhfcaaaDoor
end

/-! couranthelp.Bytes: two slices of bytes hold the same. -/
section
set_option linter.unusedVariables false
set_option linter.unusedSimpArgs false
namespace Go.Proofs.YtefpigakhhfcaaaDoor
open Go.RowKit

theorem conv_run (w : World) (A : Option Addr) (n c : Nat) (xs : List UInt8) (hn : n = xs.length) (h : Bs w A xs) : (convert 31 9 (.slice A n c)).run Tryd.prog w = .ok (.string ⟨xs.toArray⟩) w := by
  subst hn
  cases A with
  | none =>
    have := h.1 rfl
    subst this
    rw [run_convert_bytes_string w 31 9 5 none _ c Tryd.underlying31 Tryd.underlying5 Tryd.underlying9]
    rfl
  | some ad =>
    refine run_convert_bytes_back w 31 9 5 ad c xs Tryd.underlying31 Tryd.underlying5 Tryd.underlying9 ?_
    intro j hj
    have := h.2 ad rfl j (bv xs[j]) (by simp [hj])
    simpa [bv] using this
set_option maxHeartbeats 1000000 in
theorem bytes_any (w : World) (A B : Option Addr) (n c m d : Nat) (xs ys : List UInt8) (hn : n = xs.length) (hm : m = ys.length) (hx : Bs w A xs) (hy : Bs w B ys) :
    Calls Tryd.prog 13 #[.slice A n c, .slice B m d] w fun e w' => e = .returned (.bool (decide (xs = ys))) ∧ w = w' := by
  have h1 := conv_run w A n c xs hn hx
  have h2 := conv_run w B m d ys hm hy
  have HE : Hid ((xs == ys) = decide (xs = ys)) := Lib.hid (by rw [Bool.eq_iff_iff]; simp)
  clear hn hm hx hy
  go_enter Tryd.func13, Tryd.ntmps13
  go_wp2
  go_ret
  exact ⟨ret_bool HE.out, rfl⟩
end Go.Proofs.YtefpigakhhfcaaaDoor
end

/-! Files of a call's own, at whatever arm: what FilesSafe and FilesSwap are walked by. -/
section
set_option linter.unusedVariables false
set_option linter.unusedSimpArgs false
namespace Go.Proofs.YtefpigakhhfcaaaDoor
open Go.RowKit

def nmB : ByteArray := ⟨#[98]⟩
theorem nmB_full : fullB nmB = true := by kernel_rfl
/-- Files of this call's own. -/
structure Own (w W : World) (F M : Nat) (ps : List PF) (clock : Nat) (lim arm : Int) (dn : Bool) : Prop where
  at_ : FilesAt W F M ps clock lim arm dn
  new : ∀ k ∈ foot F M ps, w.heap.size ≤ k
  kept : Kept (fun _ => False) w W
variable {w W W' : World} {F M : Nat} {ps ps' : List PF} {clock clock' : Nat} {lim arm arm' : Int} {dn dn' : Bool}
theorem Own.step (h : Own w W F M ps clock lim arm dn) (k : Went W F M ps ps' clock' lim arm' dn' W') : Own w W' F M ps' clock' lim arm' dn' :=
  ⟨k.at_, fun i hi => (k.feet i hi).elim (h.new i) fun hi => Nat.le_trans h.kept.size hi, h.kept.trans k.kept fun i hi hm => by have := h.new i hm; omega⟩
theorem Own.stay (h : Own w W F M ps clock lim arm dn) (k : Kept (fun _ => False) W W') : Own w W' F M ps clock lim arm dn := ⟨h.at_.kept k (by simp), h.new, h.kept.trans' k⟩
theorem Room.own' (h : Room w W F M ps clock lim) : Own w W F M ps clock lim 0 false := ⟨h.at_, h.new, h.kept⟩
/-- A slice that came in is as it was. -/
theorem Own.bs (h : Own w W F M ps clock lim arm dn) {A : Option Addr} {xs : List UInt8} (hx : Bs w A xs) : Bs W A xs := hx.kept h.kept (by simp)
theorem All2.len {ps qs : List PF} (h : All2 Fell ps qs) : qs.length = ps.length := h.1.symm
theorem All2.names {ps qs : List PF} (h : All2 Fell ps qs) (hm : ∀ p ∈ ps, p.name.size ≤ 1000000) : ∀ q ∈ qs, q.name.size ≤ 1000000 := by
  intro q hq
  obtain ⟨i, hi⟩ := List.getElem?_of_mem hq
  have hil : i < ps.length := by rw [h.1]; exact (List.getElem?_eq_some_iff.1 hi).1
  have hp := List.getElem?_eq_getElem hil
  rw [(h.2 i _ q hp hi).name]
  exact hm _ (List.getElem_mem hil)
end Go.Proofs.YtefpigakhhfcaaaDoor
end

/-! courantlaw16.FilesRoom, walked. -/
section
set_option linter.unusedVariables false
set_option linter.unusedSimpArgs false
namespace Go.Proofs.YtefpigakhhfcaaaDoor
open Go.RowKit

/-- A slice of integers that came in. -/
def IsRow (k : IntKind) (w : World) (a : Option Addr) (len cap : Nat) (zs : List Int) : Prop :=
  (a = none ∧ len = 0 ∧ cap = 0 ∧ zs = []) ∨
  ∃ x, a = some x ∧ len ≤ cap ∧ cap ≤ maxLen ∧ zs.length = cap ∧ (∀ i, i < zs.length → w.cell? (x.add i) = some (.int k (zs.getD i 0))) ∧ ∀ n ∈ zs, (Lit.int k n).wf = true
def iN : Value → Nat
  | .int _ x => x.toNat
  | _ => 0
theorem modN_r (m x : Int) (hm : 0 < m) (hm2 : m ≤ 1000000) : 0 ≤ wrap64 ((IntKind.u64.wrap x).tmod m) ∧ wrap64 ((IntKind.u64.wrap x).tmod m) < m := by
  have h0 : 0 ≤ IntKind.u64.wrap x := by
    simp only [IntKind.wrap]
    first | exact Int.emod_nonneg _ (by decide) | (split <;> first | omega | (exact Int.emod_nonneg _ (by decide))) | omega
  have h1 := Int.tmod_nonneg m h0
  have h2 := Int.tmod_lt_of_pos (IntKind.u64.wrap x) hm
  have h3 : wrap64 ((IntKind.u64.wrap x).tmod m) = (IntKind.u64.wrap x).tmod m := by
    unfold wrap64
    omega
  rw [h3]
  exact ⟨h1, h2⟩
def mk0 (N : Nat) : List UInt8 := List.replicate N 0
theorem make_run (W : World) (N : Nat) (hN : N < 800) : (Instr.makeSlice 31 (.int .i64 (N : Int)) (.int .i64 (N : Int))).run Tryd.prog W = .ok (.slice (some ⟨W.heap.size, 0, none⟩) N N) (W.alloc (.cells ((mk0 N).map bv).toArray 5)) := by
  obtain ⟨i0, hi, hz0, hz1, hz2⟩ := info_parts infoU8
  have := run_makeSlice (P := Tryd.prog) W 31 5 i0 (.int .u8 0) Tryd.underlying31 hi hz0 .i64 .i64 (N : Int) (N : Int) (by omega) (Int.le_refl _) (by rw [hz1]; simp; omega) (by rw [hz2]; omega) (by omega)
  rw [this]
  have e : madeCells (Value.int .u8 0).cells ((N : Int).toNat * i0.size) = ((mk0 N).map bv).toArray := by
    apply Array.ext'
    rw [hz1, show (Value.int .u8 0).cells = #[.int .u8 0] from rfl, toList_madeCells_one]
    simp [mk0, bv]
  rw [e]
  simp
theorem mk0_len (N : Nat) : (mk0 N).length = N := by simp [mk0]
theorem used_room {w W : World} {F M : Nat} {ps : List PF} {clock : Nat} {lim : Int} {ys : List UInt8} {m : Bool} (V : Int) (h : Room w W F M ps clock lim) (ho : One ps ys m) (hV : (ys.length : Int) = V) (hu : V ≤ 1000000000) :
    Calls Tryd.prog 55 #[.pointer (some ⟨F, 0, none⟩)] W fun e w' => e = .returned (.int .i64 V) ∧ Room w w' F M ps clock lim := by
  subst hV
  exact (used_one W ps clock lim F M ys m h.at_ ho (by omega)).mono fun e w' ⟨he, hk⟩ => ⟨he, h.stay hk⟩
end Go.Proofs.YtefpigakhhfcaaaDoor
end

/-! courantlaw16.FilesSwap, walked: states. -/
section
set_option linter.unusedVariables false
set_option linter.unusedSimpArgs false
namespace Go.Proofs.YtefpigakhhfcaaaDoor
open Go.RowKit

theorem fits_of {lim : Int} {ps : List PF} {n u : Nat} (hu : usedL ps = u) (h : (n : Int) + (u : Int) ≤ lim) : Fits lim ps n := .inr (by rw [hu]; exact h)
/-- Append "a", the first file. -/
theorem Own.appA {w W : World} {F M : Nat} (h : Own w W F M [] 0 1048576 0 false) {A : Option Addr} {n c : Nat} {xs : List UInt8} (hx : Bs w A xs) (hn : n = xs.length) (hA : A = none → c = 0) (hl : n ≤ 5000) (hw : ∀ ad, A = some ad → xs = [] ∨ ad.block < w.heap.size) :
    Calls Tryd.prog 34 #[.pointer (some ⟨F, 0, none⟩), .string ⟨#[97]⟩, .slice A n c] W fun e w' => e = .returned (.int .i64 0) ∧ ∃ B v, Own w w' F M [⟨nmA, xs, 0, B, v, 0⟩] 1 1048576 0 false := by
  refine (append_new nmA A n c W F M 1048576 0 [] 0 xs (by simp) (by decide) nmA_full h.at_ (by simp [usedL]) (h.bs hx) hn hA (fits_of (u := 0) rfl (by omega)) (fun ad e => ?_)).mono ?_
  · have := h.new M (by simp [foot])
    exact (hw ad e).imp id fun h => by omega
  · rintro e w' ⟨B, v, rfl, hw'⟩
    exact ⟨rfl, B, v, h.step hw'⟩
theorem Own.syncA {w W : World} {F M B : Nat} {v : Value} {xs : List UInt8} (h : Own w W F M [⟨nmA, xs, 0, B, v, 0⟩] 1 1048576 0 false) :
    Calls Tryd.prog 42 #[.pointer (some ⟨F, 0, none⟩), .string ⟨#[97]⟩] W fun e w' => e = .returned (.int .i64 0) ∧ Own w w' F M [⟨nmA, xs, xs.length, B, v, 0⟩] 1 1048576 0 false := by
  refine (sync_ok W F M 1048576 0 [] [] ⟨nmA, xs, 0, B, v, 0⟩ 1 (by decide) h.at_).mono ?_
  rintro e w' ⟨rfl, hw'⟩
  exact ⟨rfl, h.step hw'⟩
/-- Append "b" beside a synced "a", at whatever arm. -/
theorem Own.appB {w W : World} {F M B : Nat} {v : Value} {ys : List UInt8} {arm : Int} (h : Own w W F M [⟨nmA, ys, ys.length, B, v, 0⟩] 1 1048576 arm false) {A : Option Addr} {n c : Nat} {xs : List UInt8} (hx : Bs w A xs) (hn : n = xs.length) (hA : A = none → c = 0) (hl : n ≤ 5000) (hy : ys.length ≤ 5000)
    (hw : ∀ ad, A = some ad → xs = [] ∨ ad.block < w.heap.size) :
    Calls Tryd.prog 34 #[.pointer (some ⟨F, 0, none⟩), .string ⟨#[98]⟩, .slice A n c] W fun e w' => e = .returned (.int .i64 (hitE arm)) ∧ ∃ B2 v2, Own w w' F M [⟨nmA, ys, ys.length, B, v, 0⟩, ⟨nmB, xs, 0, B2, v2, 1⟩] 2 1048576 (decA arm) (decide (arm = 1)) := by
  refine (append_new nmB A n c W F M 1048576 arm _ 1 xs (by simp [nmA, nmB]) (by decide) nmB_full h.at_ (by simp [usedL]; omega) (h.bs hx) hn hA (fits_of (u := ys.length) (by simp [usedL]) (by omega)) (fun ad e => ?_)).mono ?_
  · have := h.new M (by simp [foot])
    exact (hw ad e).imp id fun h => by omega
  · rintro e w' ⟨B2, v2, rfl, hw'⟩
    exact ⟨rfl, B2, v2, h.step hw'⟩
theorem Own.syncB {w W : World} {F M B B2 : Nat} {v v2 : Value} {ys xs : List UInt8} {arm : Int} (ha : arm ≠ 1) (h : Own w W F M [⟨nmA, ys, ys.length, B, v, 0⟩, ⟨nmB, xs, 0, B2, v2, 1⟩] 2 1048576 arm false) :
    Calls Tryd.prog 42 #[.pointer (some ⟨F, 0, none⟩), .string ⟨#[98]⟩] W fun e w' => e = .returned (.int .i64 0) ∧ Own w w' F M [⟨nmA, ys, ys.length, B, v, 0⟩, ⟨nmB, xs, xs.length, B2, v2, 1⟩] 2 1048576 (decA arm) false := by
  refine (sync_ok W F M 1048576 arm [⟨nmA, ys, ys.length, B, v, 0⟩] [] ⟨nmB, xs, 0, B2, v2, 1⟩ 2 ha h.at_).mono ?_
  rintro e w' ⟨rfl, hw'⟩
  exact ⟨rfl, h.step hw'⟩
theorem Own.syncBhit {w W : World} {F M B B2 : Nat} {v v2 : Value} {ys xs : List UInt8} (h : Own w W F M [⟨nmA, ys, ys.length, B, v, 0⟩, ⟨nmB, xs, 0, B2, v2, 1⟩] 2 1048576 1 false) :
    Calls Tryd.prog 42 #[.pointer (some ⟨F, 0, none⟩), .string ⟨#[98]⟩] W fun e w' => e = .returned (.int .i64 13) ∧ Own w w' F M [⟨nmA, ys, ys.length, B, v, 0⟩, ⟨nmB, xs, 0, B2, v2, 1⟩] 2 1048576 (decA 1) true := by
  refine (sync_hit W F M 1048576 [⟨nmA, ys, ys.length, B, v, 0⟩] [] ⟨nmB, xs, 0, B2, v2, 1⟩ 2 h.at_).mono ?_
  rintro e w' ⟨rfl, hw'⟩
  exact ⟨rfl, h.step hw'⟩
/-- What is safe is whole behind a fall. -/
theorem Fell.whole {p q : PF} (h : Fell p q) (hs : p.safe = p.b.length) : q.name = p.name ∧ q.b = p.b ∧ q.safe = q.b.length := by
  obtain ⟨k, h1, h2, h3, h4⟩ := h.some_
  have : k = p.b.length := by omega
  subst this
  have hb : q.b = p.b := by rw [h3]; simp
  exact ⟨h.name, hb, by rw [h4, hb]⟩
end Go.Proofs.YtefpigakhhfcaaaDoor
end

/-! courantlaw16.FilesSwap, walked. -/
section
set_option linter.unusedVariables false
set_option linter.unusedSimpArgs false
namespace Go.Proofs.YtefpigakhhfcaaaDoor
open Go.RowKit

theorem all2_one {p : PF} {qs : List PF} (h : All2 Fell [p] qs) : ∃ q, qs = [q] ∧ Fell p q := by
  obtain ⟨h1, h2⟩ := h
  match qs, h1 with
  | [q], _ => exact ⟨q, rfl, h2 0 p q rfl rfl⟩
theorem all2_two {p r : PF} {qs : List PF} (h : All2 Fell [p, r] qs) : ∃ q s, qs = [q, s] ∧ Fell p q ∧ Fell r s := by
  obtain ⟨h1, h2⟩ := h
  match qs, h1 with
  | [q, s], _ => exact ⟨q, s, rfl, h2 0 p q rfl rfl, h2 1 r s rfl rfl⟩
theorem Own.readA {w W : World} {F M clock : Nat} {l2 : List PF} {q : PF} {ys : List UInt8} (h : Own w W F M (q :: l2) clock 1048576 0 false) (hn : q.name = nmA) (hb : q.b = ys) :
    Calls Tryd.prog 25 #[.pointer (some ⟨F, 0, none⟩), .string ⟨#[97]⟩] W fun e w' => ∃ A c, e = .returned (.tuple #[.slice A ys.length c, .int .i64 0]) ∧ Bs w' A ys ∧ Own w w' F M (q :: l2) clock 1048576 0 false := by
  have := read_some W F M 1048576 0 [] l2 q clock h.at_
  rw [hn, hb] at this
  refine this.mono ?_
  rintro e w' ⟨v, rfl, hown, hk⟩
  obtain ⟨A, c, rfl, _, hbs, _⟩ := Bs.of_own hown
  exact ⟨A, c, rfl, hbs, h.stay hk⟩
theorem Own.readB {w W : World} {F M clock : Nat} {q : PF} (h : Own w W F M [q] clock 1048576 0 false) (hn : q.name = nmA) :
    Calls Tryd.prog 25 #[.pointer (some ⟨F, 0, none⟩), .string ⟨#[98]⟩] W fun e w' => ∃ A n c, e = .returned (.tuple #[.slice A n c, .int .i64 8]) ∧ Kept (fun _ => False) W w' ∧ Own w w' F M [q] clock 1048576 0 false := by
  refine (read_none nmB W F M 1048576 0 [q] clock h.at_ (by simp [hn, nmA, nmB])).mono ?_
  rintro e w' ⟨v, rfl, hown, hk⟩
  obtain ⟨A, c, rfl, _⟩ := Bs.of_own hown
  exact ⟨A, _, c, rfl, hk, h.stay hk⟩
theorem nms {p q : PF} (hp : p.name = nmA) (hq : q.name = nmB) : ∀ r ∈ [p, q], r.name.size ≤ 1000000 := by
  intro r hr
  simp only [List.mem_cons, List.not_mem_nil, or_false] at hr
  rcases hr with rfl | rfl
  · rw [hp]; decide
  · rw [hq]; decide
theorem nms1 {p : PF} (hp : p.name = nmA) : ∀ r ∈ [p], r.name.size ≤ 1000000 := by
  intro r hr
  simp only [List.mem_cons, List.not_mem_nil, or_false] at hr
  subst hr; rw [hp]; decide
end Go.Proofs.YtefpigakhhfcaaaDoor
end

/-! courantlaw16.FilesSafe: states, bytes of their own, what is appended to them. -/
section
set_option linter.unusedVariables false
set_option linter.unusedSimpArgs false
namespace Go.Proofs.YtefpigakhhfcaaaDoor
open Go.RowKit

/-- append(s, xs...) onto bytes of the call's own, xs nil or not. -/
theorem wpList_append_bs {w : World} {ops : Array Oper} {rest : List Oper} {o : Oper} {a : Act} {Q : Exit → Act → World → Prop} (hgd : o.guard = none) (s x : Operand)
    (ho : o.op = .call { callee := .builtin .append, args := #[s, x], argTypes := #[31, 31] })
    (base : Nat) (v : Value) (n : Nat) (ys : List Value) (hs : a.eval s = v) (hown : w.ownsRow base 5 1 v n ys)
    (A : Option Addr) (m c : Nat) (xs : List UInt8) (hx : a.eval x = .slice A m c) (hB : Bs w A xs) (hm : m = xs.length) (hA : A = none → c = 0)
    (h63 : n + m ≤ 1000000000) (hbase : base ≤ w.heap.size)
    (h : ∀ v' w', w'.ownsRow base 5 1 v' (n + m) (ys ++ xs.map bv) → w.grownBy w' v.ownBlock → wpList Tryd.prog ops Q rest (a.put o.dst v') w') : wpList Tryd.prog ops Q (o :: rest) a w := by
  obtain ⟨i0, hi, hz0, hz1, hz2⟩ := info_parts infoU8
  cases A with
  | none =>
    have h1 := hB.1 rfl
    have h2 := hA rfl
    subst h1; subst h2
    simp only [List.length_nil] at hm
    subst hm
    refine wpList_append_own_none hgd s x 31 ho base 5 i0 1 Tryd.underlying31 hi v n ys hs hown hx ?_
    exact h v w (by simpa using hown) ⟨rfl, rfl, rfl, Nat.le_refl _, fun _ _ _ => rfl⟩
  | some ad =>
    refine wpList_append_own w hgd s x 31 ho base 5 i0 (.int .u8 0) 1 1 Tryd.underlying31 hi hz0 hz1 hz2 rfl (by decide) v n ys hs hown ad m c (xs.map bv) hx ?_ ?_ (bv_one xs) ?_ ?_ hbase ?_
    · rw [List.length_map, hm, Nat.mul_one]
    · exact hB.2 ad rfl
    · unfold maxLen; omega
    · omega
    · intro v' w' h2 h3 _
      exact h v' w' h2 h3
/-- Files with "a" (first bytes safe) alone; with "b" beside. -/
abbrev fa (zs : List UInt8) (s B : Nat) (v : Value) : PF := ⟨nmA, zs, s, B, v, 0⟩
abbrev fb (zs : List UInt8) (B : Nat) (v : Value) : PF := ⟨nmB, zs, 0, B, v, 1⟩
theorem Own.appLate {w W : World} {F M B s clock : Nat} {v : Value} {ys : List UInt8} {l2 : List PF} {arm : Int} (h : Own w W F M (fa ys s B v :: l2) clock 1048576 arm false) {A : Option Addr} {n c : Nat} {xs : List UInt8} (hx : Bs w A xs) (hn : n = xs.length) (hA : A = none → c = 0)
    (hu : usedL (fa ys s B v :: l2) ≤ 20000) (hl : n ≤ 5000) :
    Calls Tryd.prog 34 #[.pointer (some ⟨F, 0, none⟩), .string ⟨#[97]⟩, .slice A n c] W fun e w' => e = .returned (.int .i64 (hitE arm)) ∧ ∃ v', Own w w' F M (fa (ys ++ xs) s B v' :: l2) clock 1048576 (decA arm) (decide (arm = 1)) := by
  refine (append_old A n c W F M 1048576 arm [] l2 (fa ys s B v) clock xs (show nmA.size ≤ 140737488355328 by decide) nmA_full h.at_ (by show usedL (fa ys s B v :: l2) ≤ _; omega) (h.bs hx) hn hA (fits_of (u := usedL (fa ys s B v :: l2)) rfl (by omega))).mono ?_
  rintro e w' ⟨v', rfl, hw'⟩
  exact ⟨rfl, v', h.step hw'⟩
theorem Own.appB2 {w W : World} {F M B s : Nat} {v : Value} {ys : List UInt8} (h : Own w W F M [fa ys s B v] 1 1048576 0 false) {A : Option Addr} {n c : Nat} {xs : List UInt8} (hx : Bs w A xs) (hn : n = xs.length) (hA : A = none → c = 0) (hl : n ≤ 5000) (hy : ys.length ≤ 20000)
    (hw : ∀ ad, A = some ad → xs = [] ∨ ad.block < w.heap.size) :
    Calls Tryd.prog 34 #[.pointer (some ⟨F, 0, none⟩), .string ⟨#[98]⟩, .slice A n c] W fun e w' => e = .returned (.int .i64 0) ∧ ∃ B2 v2, Own w w' F M [fa ys s B v, fb xs B2 v2] 2 1048576 0 false := by
  refine (append_new nmB A n c W F M 1048576 0 _ 1 xs (by simp [nmA, nmB]) (by decide) nmB_full h.at_ (by simp [usedL]; omega) (h.bs hx) hn hA (fits_of (u := ys.length) (by simp [usedL]) (by omega)) (fun ad e => ?_)).mono ?_
  · have := h.new M (by simp [foot])
    exact (hw ad e).imp id fun h => by omega
  · rintro e w' ⟨B2, v2, rfl, hw'⟩
    exact ⟨rfl, B2, v2, h.step hw'⟩
/-- What is down refuses. -/
theorem Own.appDown {w W : World} {F M clock : Nat} {ps : List PF} {lim arm : Int} (h : Own w W F M ps clock lim arm true) (s : ByteArray) (bs : Value) :
    Calls Tryd.prog 34 #[.pointer (some ⟨F, 0, none⟩), .string s, bs] W fun e w' => e = .returned (.int .i64 13) ∧ w' = W := by
  refine (append_no (.pointer (some ⟨F, 0, none⟩)) s bs 13 rfl W (Lib.hid (ready_any W F M lim arm true h.at_.fb))).mono ?_
  rintro e w' ⟨rfl, rfl⟩
  exact ⟨rfl, rfl⟩
/-- Read a file: first bytes of what was there. -/
theorem Own.readAt {w W : World} {F M clock : Nat} {l1 l2 : List PF} {q : PF} {s : ByteArray} {ys : List UInt8} (h : Own w W F M (l1 ++ q :: l2) clock 1048576 0 false) (hn : q.name = s) (hb : q.b = ys) :
    Calls Tryd.prog 25 #[.pointer (some ⟨F, 0, none⟩), .string s] W fun e w' => ∃ A c, e = .returned (.tuple #[.slice A ys.length c, .int .i64 0]) ∧ Bs w' A ys ∧ Own w w' F M (l1 ++ q :: l2) clock 1048576 0 false ∧ Kept (fun _ => False) W w' := by
  have := read_some W F M 1048576 0 l1 l2 q clock h.at_
  rw [hn, hb] at this
  refine this.mono ?_
  rintro e w' ⟨v, rfl, hown, hk⟩
  obtain ⟨A, c, rfl, _, hbs, _⟩ := Bs.of_own hown
  exact ⟨A, c, rfl, hbs, h.stay hk, hk⟩
/-- Two falls: the second one takes nothing more. -/
theorem Fell.two {p q r : PF} (h : Fell p q) (k : Fell q r) : r.name = p.name ∧ ∃ m, p.safe ≤ m ∧ m ≤ p.b.length ∧ r.b = p.b.take m := by
  obtain ⟨m, h1, h2, h3, h4⟩ := h.some_
  have hs : q.safe = q.b.length := by rw [h4, h3]; simp; omega
  have hw := k.whole hs
  exact ⟨hw.1.trans h.name, m, h1, h2, by rw [hw.2.1, h3]⟩
theorem own_ge {w : World} {base : Nat} {e : TypeId} {size n : Nat} {v : Value} {xs : List Value} (h : w.ownsRow base e size v n xs) : ∀ k, v.ownBlock = some k → base ≤ k := by
  intro k hk
  rcases h.2 with ⟨hv, _⟩ | ⟨g, cap, cur, hv, hb, _⟩
  · rw [hv] at hk; cases hk
  · have hg : g = k := by rw [hv] at hk; simpa [Value.ownBlock] using hk
    omega
theorem add0 (A : Option Addr) : (A.map (·.add 0)) = A := by
  cases A with
  | none => rfl
  | some a => simp [Addr.add]
/-- What is read is the first bytes of what was there. -/
theorem bytes_take (w : World) (A B : Option Addr) (n c d : Nat) (xs ys : List UInt8) (hx : Bs w A xs) (hn : n = xs.length) (he : xs = ys.take n) (hy : Bs w B ys) :
    Calls Tryd.prog 13 #[.slice A n c, .slice B n d] w fun e w' => e = .returned (.bool true) ∧ w = w' := by
  have hy' : Bs w B (ys.take n) := by
    refine ⟨fun e => ?_, fun ad e j u hu => hy.2 ad e j u ?_⟩
    · have := hy.1 e; simp [this]
    · rw [List.map_take, List.getElem?_take] at hu
      split at hu
      · exact hu
      · cases hu
  refine (bytes_any w A B n c n d xs (ys.take n) hn (by rw [← he]; exact hn) hx hy').mono ?_
  rintro e w' ⟨rfl, rfl⟩
  exact ⟨by rw [decide_eq_true he], rfl⟩
end Go.Proofs.YtefpigakhhfcaaaDoor
end
