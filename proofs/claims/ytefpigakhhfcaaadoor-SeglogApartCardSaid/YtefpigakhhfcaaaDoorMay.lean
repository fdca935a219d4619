import Derived.Test.YtefpigakhhfcaaaDoorMar
import Derived.Test.YtefpigakhhfcaaaDoorMaw
/-! courantref22.Put. -/
section
set_option linter.unusedVariables false
set_option linter.unusedSimpArgs false
namespace Go.Proofs.YtefpigakhhfcaaaDoor
open Go.RowKit

theorem Core_def (p : PV) : p.core = (p.key, p.b, p.gone) := rfl
end Go.Proofs.YtefpigakhhfcaaaDoor
end

/-! compact: how a store lies; met, ready, Size, All; what a nil store answers. -/
section
set_option linter.unusedVariables false
set_option linter.unusedSimpArgs false
namespace Go.Proofs.YtefpigakhhfcaaaDoor
open Go.RowKit

section
variable {w : World} {T F : Nat} {nm : ByteArray} {v : Value} {next size : Nat} {dead : Bool}
end
end Go.Proofs.YtefpigakhhfcaaaDoor
end

/-! compact.Open: a name that may not be; no file yet. -/
section
set_option linter.unusedVariables false
set_option linter.unusedSimpArgs false
namespace Go.Proofs.YtefpigakhhfcaaaDoor
open Go.RowKit

def dotK : ByteArray := ⟨#[46, 107]⟩
def dotT : ByteArray := ⟨#[46, 116]⟩
theorem size_dotK (nm : ByteArray) : (nm ++ dotK).size = nm.size + 2 := by rw [ByteArray.size_append]; rfl
end Go.Proofs.YtefpigakhhfcaaaDoor
end

/-! compact: a store with its files; what leaves it as it is. -/
section
set_option linter.unusedVariables false
set_option linter.unusedSimpArgs false
namespace Go.Proofs.YtefpigakhhfcaaaDoor
open Go.RowKit

/-- No file, or one of that name, with those bytes. -/
def OneK (ps : List PF) (nk : ByteArray) (d : List UInt8) (made : Bool) : Prop := (ps = [] ∧ d = [] ∧ made = false) ∨ ∃ p, ps = [p] ∧ p.name = nk ∧ p.b = d ∧ made = true
theorem OneK.used {ps : List PF} {nk : ByteArray} {d : List UInt8} {m : Bool} (h : OneK ps nk d m) : usedL ps = d.length := by
  rcases h with ⟨rfl, rfl, _⟩ | ⟨p, rfl, _, rfl, _⟩ <;> simp [usedL]
/-- Pairs that lie below L. -/
def PsL (Z : Nat → Prop) (w : World) (B : Option Addr) (ms : List PV) : Prop := ∀ W, Kept (fun k => Z k) w W → PsAt W B ms
theorem PsL.stay {Z : Nat → Prop} {w w' : World} {B : Option Addr} {ms : List PV} (h : PsL Z w B ms) (hk : Kept (fun k => Z k) w w') : PsL Z w' B ms := fun W hW => h W (hk.trans' hW)
section
variable {Z : Nat → Prop} {w w' : World} {T F M : Nat} {nm : ByteArray} {ps ps' : List PF} {clock clock' : Nat} {lim : Int} {v : Value} {qs : List PV} {next size : Nat}
end
set_option maxHeartbeats 1000000 in
theorem appendK (W : World) (F M : Nat) (ps : List PF) (clock : Nat) (lim : Int) (nk : ByteArray) (d : List UInt8) (made : Bool) (A : Option Addr) (n c : Nat) (xs : List UInt8) (h : FilesAt W F M ps clock lim 0 false) (ho : OneK ps nk d made) (hs : nk.size ≤ 140737488355328) (hf : fullB nk = true)
    (hx : Bs W A xs) (hn : n = xs.length) (hA : A = none → c = 0) (hfit : (xs.length : Int) + (d.length : Int) ≤ lim) (hM : ∀ ad, A = some ad → xs = [] ∨ ad.block ≠ M) :
    Calls Tryd.prog 34 #[.pointer (some ⟨F, 0, none⟩), .string nk, .slice A n c] W fun e w' => e = .returned (.int .i64 0) ∧ ∃ ps' clock', Went W F M ps ps' clock' lim 0 false w' ∧ OneK ps' nk (d ++ xs) true := by
  have hl := h.lim0.2
  have hu := ho.used
  rcases ho with ⟨rfl, rfl, _⟩ | ⟨p, rfl, hp, rfl, _⟩
  · refine (append_new nk A n c W F M lim 0 [] clock xs (by simp) hs hf h (by rw [hu]; simp) hx hn hA (by unfold Fits; rw [hu]; simp at hfit ⊢; right; omega) hM).mono ?_
    rintro e w' ⟨B, u, rfl, hw⟩
    exact ⟨rfl, _, _, hw, .inr ⟨_, rfl, rfl, by simp, rfl⟩⟩
  · have := append_old A n c W F M lim 0 [] [] p clock xs (by rw [hp]; exact hs) (by rw [hp]; exact hf) h (by show usedL [p] ≤ _; rw [hu]; omega) hx hn hA (by show Fits lim [p] n; unfold Fits; rw [hu]; right; omega)
    rw [hp] at this
    refine this.mono ?_
    rintro e w' ⟨u, rfl, hw⟩
    exact ⟨rfl, _, _, hw, .inr ⟨_, rfl, rfl, rfl, rfl⟩⟩
end Go.Proofs.YtefpigakhhfcaaaDoor
end

/-! compact.Put, where there is room. -/
section
set_option linter.unusedVariables false
set_option linter.unusedSimpArgs false
namespace Go.Proofs.YtefpigakhhfcaaaDoor
open Go.RowKit

set_option maxHeartbeats 1000000 in
theorem syncK (W : World) (F M : Nat) (ps : List PF) (clock : Nat) (lim : Int) (nk : ByteArray) (d : List UInt8) (h : FilesAt W F M ps clock lim 0 false) (ho : OneK ps nk d true) :
    Calls Tryd.prog 42 #[.pointer (some ⟨F, 0, none⟩), .string nk] W fun e w' => e = .returned (.int .i64 0) ∧ ∃ ps', Went W F M ps ps' clock lim 0 false w' ∧ OneK ps' nk d true := by
  rcases ho with ⟨_, _, h0⟩ | ⟨p, rfl, hp, rfl, _⟩
  · cases h0
  · have := sync_ok W F M lim 0 [] [] p clock (by decide) h
    rw [hp] at this
    refine this.mono ?_
    rintro e w' ⟨rfl, hw⟩
    exact ⟨rfl, _, hw, .inr ⟨_, rfl, rfl, rfl, rfl⟩⟩
end Go.Proofs.YtefpigakhhfcaaaDoor
end

/-! compact.All; courantlaw23.awake. -/
section
set_option linter.unusedVariables false
set_option linter.unusedSimpArgs false
namespace Go.Proofs.YtefpigakhhfcaaaDoor
open Go.RowKit

end Go.Proofs.YtefpigakhhfcaaaDoor
end

/-! courantlaw23.awake. -/
section
set_option linter.unusedVariables false
set_option linter.unusedSimpArgs false
namespace Go.Proofs.YtefpigakhhfcaaaDoor
open Go.RowKit

def nA : ByteArray := ⟨#[97]⟩
theorem nA_full : fullB (nA ++ dotK) = true := by kernel_rfl
theorem one_len (A : Option Addr) (c : Nat) : (bytesP [⟨⟨#[107]⟩, [1], false, A, c⟩]).length = 6 := rfl
theorem bound1000 : boundI 1000 = 1000 := by decide
theorem one_core (A : Option Addr) (c : Nat) : putC (([] : List PV).map PV.core) ([(⟨⟨#[107]⟩, [1], false, A, c⟩ : PV)].map PV.core) = [(⟨#[107]⟩, [1], false)] := rfl
theorem core_one {qs : List PV} {c : Core} (h : qs.map PV.core = [c]) : qs.length = 1 ∧ ∀ q ∈ qs, q.core = c := by
  have h1 := congrArg List.length h
  simp at h1
  refine ⟨h1, fun q hq => ?_⟩
  have : q.core ∈ qs.map PV.core := List.mem_map_of_mem hq
  rw [h] at this
  simpa using this
end Go.Proofs.YtefpigakhhfcaaaDoor
end

/-! compact.frames, plain: pairs cut into frames; parts of slices of pairs; slices of bytes of a call's own. -/
section
set_option linter.unusedVariables false
set_option linter.unusedSimpArgs false
namespace Go.Proofs.YtefpigakhhfcaaaDoor
open Go.RowKit

theorem numLe1 (k v : Nat) (hv : v < 128) : (numF k v).length = 1 := by
  cases k with
  | zero => rfl
  | succ k => simp [numF, hv]
theorem numLe2 (k v : Nat) (hv : v < 16384) : (numF k v).length ≤ 2 := by
  cases k with
  | zero => simp [numF]
  | succ k =>
    simp only [numF]
    split
    · simp
    · simp only [List.length_cons]
      have := numLe1 k (v / 128) (by omega)
      omega
theorem zig2 {n : Nat} (h : n ≤ 8000) : 1 ≤ (zigB n).length ∧ (zigB n).length ≤ 2 := ⟨(numB_len _).1, numLe2 10 _ (by omega)⟩
theorem zig1 : (zigB 1).length = 1 := numLe1 10 2 (by omega)
/-- How many bytes pairs alone have. -/
def sumP (ps : List PV) : Nat := (ps.flatMap pairB).length
theorem sumP_nil : sumP [] = 0 := rfl
theorem sumP_append (a b : List PV) : sumP (a ++ b) = sumP a + sumP b := by simp [sumP]
theorem sumP_one (p : PV) : sumP [p] = (pairB p).length := by simp [sumP]
theorem bytesP_len (ps : List PV) : (bytesP ps).length = (zigB ps.length).length + sumP ps := by simp [bytesP, sumP]
theorem bytesP_one (p : PV) : (bytesP [p]).length = (pairB p).length + 1 := by rw [bytesP_len, sumP_one]; simp [zig1]; omega
theorem pair_small {p : PV} (h : wt p ≤ 3000) : (pairB p).length ≤ 3000 := by
  unfold wt at h
  have h1 := (zig2 (n := (kb p.key).length) (by rw [kb_size]; omega)).2
  have h2 := (zig2 (n := p.b.length) (by omega)).2
  have h3 := kb_size p.key
  unfold pairB
  split
  · simp only [List.length_append, textB_len, List.length_cons, List.length_nil]; omega
  · simp only [List.length_append, textB_len, List.length_cons, List.length_nil]; omega
theorem pairB_core {p q : PV} (h : p.core = q.core) : pairB p = pairB q := by
  simp only [PV.core, Prod.mk.injEq] at h
  obtain ⟨h1, h2, h3⟩ := h
  unfold pairB
  rw [h1, h2, h3]
theorem sumP_core {ps qs : List PV} (h : ps.map PV.core = qs.map PV.core) : sumP ps = sumP qs := by
  induction ps generalizing qs with
  | nil =>
    cases qs with
    | nil => rfl
    | cons q qs => simp at h
  | cons p ps ih =>
    cases qs with
    | nil => simp at h
    | cons q qs =>
      simp only [List.map_cons, List.cons.injEq] at h
      have e1 : sumP (p :: ps) = (pairB p).length + sumP ps := by simp [sumP]
      have e2 : sumP (q :: qs) = (pairB q).length + sumP qs := by simp [sumP]
      rw [e1, e2, pairB_core h.1, ih h.2]
theorem sum_small {ps : List PV} (h : ∀ p ∈ ps, wt p ≤ 3000) : sumP ps ≤ 3000 * ps.length := by
  induction ps with
  | nil => simp [sumP]
  | cons p ps ih =>
    have e1 : sumP (p :: ps) = (pairB p).length + sumP ps := by simp [sumP]
    have h1 := pair_small (h p List.mem_cons_self)
    have h2 := ih fun q hq => h q (List.mem_cons_of_mem _ hq)
    rw [e1, List.length_cons]; omega
/-- What is cut off, up to f. -/
structure Cl (qs : List PV) (f : Nat) (parts : List (List PV)) : Prop where
  flat : parts.flatten = qs.take f
  fit : ∀ l ∈ parts, l ≠ [] ∧ 29766 ≤ (bytesP l).length ∧ (bytesP l).length ≤ 32768
def seg (qs : List PV) (f k : Nat) : List PV := (qs.drop f).take (k - f)
/-- What is cut off in k rounds, and from where it goes on. -/
def cutS (qs : List PV) : Nat → List (List PV) × Nat
  | 0 => ([], 0)
  | k + 1 => if 32768 < (bytesP (seg qs (cutS qs k).2 (k + 1))).length then ((cutS qs k).1 ++ [seg qs (cutS qs k).2 k], k) else cutS qs k
def cutF (qs : List PV) : List (List PV) := if (cutS qs qs.length).2 < qs.length then (cutS qs qs.length).1 ++ [seg qs (cutS qs qs.length).2 qs.length] else (cutS qs qs.length).1
/-- Pairs, cut into frames. -/
structure Cut (qs : List PV) (parts : List (List PV)) : Prop where
  is : parts = cutF qs
  flat : parts.flatten = qs
  fit : ∀ l ∈ parts, l ≠ [] ∧ (bytesP l).length ≤ 32768
  full : ∀ l ∈ parts.dropLast, 29766 ≤ (bytesP l).length
theorem seg_len {qs : List PV} {f k : Nat} (h : f ≤ k) (h2 : k ≤ qs.length) : (seg qs f k).length = k - f := by
  unfold seg; rw [List.length_take, List.length_drop]; omega
theorem seg_snoc {qs : List PV} {f k : Nat} {q : PV} (h : f ≤ k) (hq : qs[k]? = some q) : seg qs f (k + 1) = seg qs f k ++ [q] := by
  unfold seg
  rw [show k + 1 - f = (k - f) + 1 by omega, List.take_add_one, List.getElem?_drop, show f + (k - f) = k by omega, hq]
  rfl
theorem seg_self (qs : List PV) (f : Nat) : seg qs f f = [] := by simp [seg]
theorem seg_end {qs : List PV} {f : Nat} : seg qs f qs.length = qs.drop f := by
  unfold seg
  exact List.take_of_length_le (by simp)
theorem Cl.nil (qs : List PV) : Cl qs 0 [] := ⟨by simp, fun l h => by simp at h⟩
theorem Cl.snoc {qs : List PV} {f k : Nat} {parts : List (List PV)} (h : Cl qs f parts) (hf : f < k) (hk : k ≤ qs.length) (h1 : 29766 ≤ (bytesP (seg qs f k)).length) (h2 : (bytesP (seg qs f k)).length ≤ 32768) : Cl qs k (parts ++ [seg qs f k]) := by
  refine ⟨?_, fun l hl => ?_⟩
  · rw [List.flatten_append, h.flat]
    simp only [List.flatten_cons, List.flatten_nil, List.append_nil]
    unfold seg
    rw [← List.take_add, show f + (k - f) = k by omega]
  · rcases List.mem_append.1 hl with hl | hl
    · exact h.fit l hl
    · rw [List.mem_singleton.1 hl]
      refine ⟨fun e => ?_, h1, h2⟩
      have := seg_len (Nat.le_of_lt hf) hk
      rw [e] at this; simp at this; omega
theorem Cl.done {qs : List PV} {parts : List (List PV)} (h : Cl qs qs.length parts) (hs : cutS qs qs.length = (parts, qs.length)) : Cut qs parts :=
  ⟨by unfold cutF; rw [hs, if_neg (Nat.lt_irrefl _)], by rw [h.flat, List.take_length], fun l hl => ⟨(h.fit l hl).1, (h.fit l hl).2.2⟩, fun l hl => (h.fit l (List.dropLast_subset _ hl)).2.1⟩
theorem Cl.last {qs : List PV} {f : Nat} {parts : List (List PV)} (h : Cl qs f parts) (hf : f < qs.length) (h2 : (bytesP (seg qs f qs.length)).length ≤ 32768) (hs : cutS qs qs.length = (parts, f)) : Cut qs (parts ++ [seg qs f qs.length]) := by
  refine ⟨by unfold cutF; rw [hs, if_pos hf], ?_, fun l hl => ?_, fun l hl => ?_⟩
  · rw [List.flatten_append, h.flat, seg_end]
    simp
  · rcases List.mem_append.1 hl with hl | hl
    · exact ⟨(h.fit l hl).1, (h.fit l hl).2.2⟩
    · rw [List.mem_singleton.1 hl]
      refine ⟨fun e => ?_, h2⟩
      have := seg_len (Nat.le_of_lt hf) (Nat.le_refl _)
      rw [e] at this; simp at this; omega
  · rw [List.dropLast_concat] at hl
    exact (h.fit l hl).2.1
theorem seg_full {qs : List PV} {f k : Nat} {q : PV} (hf : f ≤ k) (hq : qs[k]? = some q) (hw : wt q ≤ 3000) (hl : qs.length ≤ 8000) (h : 32768 < (bytesP (seg qs f (k + 1))).length) : 29766 ≤ (bytesP (seg qs f k)).length := by
  have hk : k < qs.length := (List.getElem?_eq_some_iff.1 hq).1
  have h1 := seg_len (qs := qs) (f := f) (k := k) hf (by omega)
  have h2 := seg_len (qs := qs) (f := f) (k := k + 1) (by omega) (by omega)
  have h3 := (zig2 (n := k + 1 - f) (by omega)).2
  have h4 := (zig2 (n := k - f) (by omega)).1
  rw [bytesP_len, h2, seg_snoc hf hq, sumP_append, sumP_one] at h
  rw [bytesP_len, h1]
  have := pair_small hw
  omega
theorem seg_one {qs : List PV} {k : Nat} {q : PV} (hq : qs[k]? = some q) (hw : wt q ≤ 3000) : (bytesP (seg qs k (k + 1))).length ≤ 32768 := by
  rw [seg_snoc (Nat.le_refl _) hq, seg_self, List.nil_append, bytesP_one]
  have := pair_small hw
  omega
theorem seg_le {qs : List PV} {f k : Nat} (hf : f ≤ k) (hk : k ≤ qs.length) (hw : ∀ q ∈ qs, wt q ≤ 3000) (hl : qs.length ≤ 8000) : (bytesP (seg qs f k)).length ≤ 30000000 := by
  have h1 := seg_len hf hk
  have h2 := (zig2 (n := k - f) (by omega)).2
  have h3 := sum_small (ps := seg qs f k) fun q hq => hw q (List.mem_of_mem_drop (List.mem_of_mem_take hq))
  rw [bytesP_len, h1]
  rw [h1] at h3
  omega
/-- How long the frames are. -/
def frLen (parts : List (List PV)) : Nat := (parts.map fun l => (bytesP l).length + 16).sum
theorem sumP_cons (l : List PV) (parts : List (List PV)) : sumP (l :: parts).flatten = sumP l + sumP parts.flatten := by rw [List.flatten_cons, sumP_append]
theorem fr_le (parts : List (List PV)) (h : ∀ l ∈ parts, l.length ≤ 8000) : frLen parts ≤ sumP parts.flatten + 18 * parts.length := by
  induction parts with
  | nil => simp [frLen]
  | cons l parts ih =>
    have h1 := ih fun q hq => h q (List.mem_cons_of_mem _ hq)
    have h2 := (zig2 (h l List.mem_cons_self)).2
    have e : frLen (l :: parts) = (bytesP l).length + 16 + frLen parts := by simp [frLen]
    rw [e, sumP_cons, bytesP_len, List.length_cons]; omega
set_option maxRecDepth 100000 in
theorem fr_few (parts : List (List PV)) (h : ∀ l ∈ parts, l.length ≤ 8000) (hf : ∀ l ∈ parts.dropLast, 29766 ≤ (bytesP l).length) : (parts.length - 1) * 29764 ≤ sumP parts.flatten := by
  induction parts with
  | nil => simp
  | cons l parts ih =>
    cases parts with
    | nil => simp
    | cons m rest =>
      have h1 := ih (fun q hq => h q (List.mem_cons_of_mem _ hq)) fun q hq => hf q (by rw [List.dropLast_cons_of_ne_nil (by simp)]; exact List.mem_cons_of_mem _ hq)
      have h2 := hf l (by rw [List.dropLast_cons_of_ne_nil (by simp)]; exact List.mem_cons_self)
      have h3 := (zig2 (h l List.mem_cons_self)).2
      rw [bytesP_len] at h2
      rw [sumP_cons]
      have e1 : (m :: rest).length - 1 = rest.length := rfl
      have e2 : (l :: m :: rest).length - 1 = rest.length + 1 := rfl
      rw [e1] at h1
      rw [e2]
      omega
theorem len_flat {parts : List (List PV)} {l : List PV} (h : l ∈ parts) : l.length ≤ parts.flatten.length := by
  induction parts with
  | nil => simp at h
  | cons m parts ih =>
    rw [List.flatten_cons, List.length_append]
    rcases List.mem_cons.1 h with rfl | h
    · omega
    · have := ih h; omega
set_option maxRecDepth 100000 in
theorem cut_total {qs : List PV} {parts : List (List PV)} (h : Cut qs parts) (hq : qs.length ≤ 8000) : frLen parts ≤ sumP qs + 19 * (sumP qs / 16384 + 1) := by
  have hl : ∀ l ∈ parts, l.length ≤ 8000 := fun l hl => by have := len_flat hl; rw [h.flat] at this; omega
  have h1 := fr_le parts hl
  have h2 := fr_few parts hl h.full
  rw [h.flat] at h1 h2
  have h3 : parts.length - 1 ≤ sumP qs / 16384 := by rw [Nat.le_div_iff_mul_le (by decide)]; omega
  omega
theorem len_parts (parts : List (List PV)) (h : ∀ l ∈ parts, l ≠ []) : parts.length ≤ parts.flatten.length := by
  induction parts with
  | nil => simp
  | cons l parts ih =>
    have h1 := ih fun m hm => h m (List.mem_cons_of_mem _ hm)
    have h2 := List.length_pos_iff.2 (h l List.mem_cons_self)
    rw [List.flatten_cons, List.length_append, List.length_cons]; omega
theorem cut_len {qs : List PV} {parts : List (List PV)} (h : Cut qs parts) : parts.length ≤ qs.length := by
  have h1 := len_parts parts fun l hl => (h.fit l hl).1
  rwa [h.flat] at h1
theorem Cl.len {qs : List PV} {f : Nat} {parts : List (List PV)} (h : Cl qs f parts) : parts.length ≤ f := by
  have h1 := len_parts parts fun l hl => (h.fit l hl).1
  rw [h.flat, List.length_take] at h1
  omega
theorem infoBB : (Tryd.prog.info? 31).map (fun i => (i.zero, i.size, i.bytes)) = some (some (.slice none 0 0), 1, 24) := by kernel_rfl
def BV.val (p : BV) : Value := .slice p.A p.b.length p.c
theorem own_apartB {W : World} {b1 b2 s1 s2 n m : Nat} {v u : Value} {xs ys : List Value} (h1 : W.ownsRow b1 31 s1 v n xs) (h2 : W.ownsRow b2 5 s2 u m ys) : ∀ k, u.ownBlock = some k → v.ownBlock ≠ some k := by
  intro k e e2
  rcases h1.2 with ⟨hv, _⟩ | ⟨g, _, _, hv, _, hh, _⟩
  · rw [hv] at e2; cases e2
  · rcases h2.2 with ⟨hu, _⟩ | ⟨g', _, _, hu, _, hh', _⟩
    · rw [hu] at e; cases e
    · have hg : g = k := by rw [hv] at e2; simpa [Value.ownBlock] using e2
      have hg' : g' = k := by rw [hu] at e; simpa [Value.ownBlock] using e
      subst hg; subst hg'
      rw [hh] at hh'
      simp at hh'
/-- A row of slices of bytes of the call's own, with bytes of its own. -/
structure OwnB (w W : World) (v : Value) (ps : List BV) : Prop where
  row : W.ownsRow w.heap.size 31 1 v ps.length (ps.map BV.val)
  own : ∀ p ∈ ps, W.ownsRow w.heap.size 5 1 p.val p.b.length (p.b.map bv)
  kept : Kept (fun _ => False) w W
section
variable {w W W' : World} {v v' : Value} {ps : List BV}
theorem OwnB.nil (w : World) : OwnB w w (.slice none 0 0) [] := ⟨World.ownsRow_nil _ _ _ _, fun q h => by simp at h, Kept.refl _ _⟩
theorem OwnB.stay (h : OwnB w W v ps) (hk : Kept (fun _ => False) W W') : OwnB w W' v ps := ⟨own_kept h.row hk (by simp), fun q hq => own_kept (h.own q hq) hk (by simp), h.kept.trans' hk⟩
theorem OwnB.grow {p : BV} (h : OwnB w W v ps) (ho : W'.ownsRow w.heap.size 31 1 v' (ps.length + 1) (ps.map BV.val ++ [p.val])) (hg : W.grownBy W' v.ownBlock) (hr : W.ownsRow w.heap.size 5 1 p.val p.b.length (p.b.map bv)) : OwnB w W' v' (ps ++ [p]) := by
  have hK : Kept (fun k => v.ownBlock = some k) W W' := (Kept.refl _ W).grown hg fun k e _ => e
  refine ⟨by rw [List.length_append, List.map_append]; exact ho, fun q hq => ?_, h.kept.grown hg fun k e hk => by have := own_ge h.row k e; omega⟩
  rcases List.mem_append.1 hq with hq | hq
  · exact own_kept (h.own q hq) hK fun k e => own_apartB h.row (h.own q hq) k e
  · rw [List.mem_singleton.1 hq]; exact own_kept hr hK fun k e => own_apartB h.row hr k e
theorem OwnB.at_ (h : OwnB w W v ps) : ∃ A c, v = .slice A ps.length c ∧ (A = none → c = 0) ∧ BBs W A ps ∧ ∀ ad, A = some ad → w.heap.size ≤ ad.block ∧ ad.block < W.heap.size := by
  have hlt := fun k e => own_lt' h.row k e
  rcases h.row.2 with ⟨hv, h0⟩ | ⟨g, cap, cur, hv, hb, hh, hsz, hc, h63, ht⟩
  · have hps : ps = [] := List.eq_nil_of_length_eq_zero h0
    subst hps
    exact ⟨none, 0, hv, fun _ => rfl, fun j p hp => by simp at hp, fun ad e => by cases e⟩
  · refine ⟨some ⟨g, 0, none⟩, cap, hv, (fun e => by cases e), ?_, fun ad e => ?_⟩
    · intro k r hr
      have key := h.row.cells (g := g) (by rw [hv]; rfl) k r.val (by rw [List.getElem?_map, hr]; rfl)
      obtain ⟨A, c, h1, -, h2, h3, -⟩ := Bs.of_own (h.own r (List.mem_of_getElem? hr))
      simp only [BV.val, Value.slice.injEq] at h1
      obtain ⟨rfl, -, rfl⟩ := h1
      exact ⟨_, rfl, key, h2, h3⟩
    · injection e with e
      subst e
      exact ⟨hb, hlt g (by rw [hv]; rfl)⟩
end
end Go.Proofs.YtefpigakhhfcaaaDoor
end

/-! compact.frames, walked. -/
section
set_option linter.unusedVariables false
set_option linter.unusedSimpArgs false
namespace Go.Proofs.YtefpigakhhfcaaaDoor
open Go.RowKit

end Go.Proofs.YtefpigakhhfcaaaDoor
end
