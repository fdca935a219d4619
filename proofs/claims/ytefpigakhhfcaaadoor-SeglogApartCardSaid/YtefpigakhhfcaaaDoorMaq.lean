import Derived.Test.YtefpigakhhfcaaaDoorMao
import Derived.Deep.QuietTactic
import Derived.BigQuiet
import Derived.Sort.Walk0
import Derived.Deep.AppendLies
import Derived.Deep.RegionHeld3
import Derived.Deep.RegionLaw
import Derived.WalkSpells
/-! General laws: lists of cells, slices of pairs, append of pairs and of bytes. -/
section
set_option linter.unusedVariables false
set_option linter.unusedSimpArgs false
namespace Go.Proofs.YtefpigakhhfcaaaDoor
open Go.RowKit

/-- What a slice reads as, cell by cell. -/
def Cs (w : World) (A : Option Addr) (xs : List Value) : Prop := (A = none → xs = []) ∧ ∀ ad, A = some ad → ∀ (j : Nat) u, xs[j]? = some u → w.cell? (ad.add j) = some u
theorem Cs.kept {S : Nat → Prop} {w w' : World} {A : Option Addr} {xs : List Value} (h : Cs w A xs) (hk : Kept S w w') (hS : ∀ ad, A = some ad → ¬ S ad.block) : Cs w' A xs :=
  ⟨h.1, fun ad e j u hu => hk.cell (h.2 ad e j u hu) (by rw [add_block]; exact hS ad e)⟩
theorem own_slice {w : World} {base : Nat} {e : TypeId} {size n : Nat} {v : Value} {xs : List Value} (h : w.ownsRow base e size v n xs) : ∃ A c, v = .slice A n c := by
  rcases h.2 with ⟨hv, h0⟩ | ⟨g, cap, cur, hv, _⟩
  · exact ⟨none, 0, by rw [hv, h0]⟩
  · exact ⟨_, _, hv⟩
theorem cs_new (W : World) (cs : List Value) (t : TypeId) : Cs (W.alloc (.cells cs.toArray t)) (some ⟨W.heap.size, 0, none⟩) cs := by
  refine ⟨fun e => by simp at e, fun ad e j u hu => ?_⟩
  injection e with e
  subst e
  exact World.news_of_block (heap_alloc_new W _) j u (by simpa using hu)
/-- append(s, xs...) onto bytes of the call's own, xs nil or not: at an operation; at a step of a region that draws. -/
theorem wp_append_bs {w : World} {o : Oper} {a : Act} {K : Act → World → Prop} {Q : Exit → Act → World → Prop} (s x : Operand)
    (ho : o.op = .call { callee := .builtin .append, args := #[s, x], argTypes := #[31, 31] })
    (base : Nat) (v : Value) (n : Nat) (ys : List Value) (hs : a.eval s = v) (hown : w.ownsRow base 5 1 v n ys)
    (A : Option Addr) (m c : Nat) (xs : List UInt8) (hx : a.eval x = .slice A m c) (hB : Bs w A xs) (hm : m = xs.length) (hA : A = none → c = 0)
    (h63 : n + m ≤ 1000000000) (hbase : base ≤ w.heap.size)
    (h : ∀ v' w', w'.ownsRow base 5 1 v' (n + m) (ys ++ xs.map bv) → w.grownBy w' v.ownBlock → K (a.put o.dst v') w') : o.wp Tryd.prog a w K Q := by
  obtain ⟨i0, hi, hz0, hz1, hz2⟩ := info_parts infoU8
  cases A with
  | none =>
    have h1 := hB.1 rfl
    have h2 := hA rfl
    subst h1; subst h2
    simp only [List.length_nil] at hm
    subst hm
    have hrun := run_append_owned_none (P := Tryd.prog) (w := w) base 31 o.type 5 i0 1 Tryd.underlying31 hi v n ys hown
    unfold Oper.wp
    simp [execOp, ho, resolve, invoke, builtin, hs, hx, hrun, Result.andThen]
    exact h v w (by simpa using hown) ⟨rfl, rfl, rfl, Nat.le_refl _, fun _ _ _ => rfl⟩
  | some ad =>
    refine wp_append_own w s x 31 ho base 5 i0 (.int .u8 0) 1 1 Tryd.underlying31 hi hz0 hz1 hz2 rfl (by decide) v n ys hs hown ad m c (xs.map bv) hx (by rw [List.length_map, hm, Nat.mul_one]) (hB.2 ad rfl) (bv_one xs) (by unfold maxLen; omega) (by omega) hbase ?_
    intro v' w' h2 h3 _
    exact h v' w' h2 h3
theorem step_append_bs {w : World} {ops : Array Oper} {o : Oper} {a : Act} {K : Act → World → Prop} {Q : Exit → Act → World → Prop} {E : Prop} (hgd : o.guard = none) (s x : Operand)
    (ho : o.op = .call { callee := .builtin .append, args := #[s, x], argTypes := #[31, 31] })
    (base : Nat) (v : Value) (n : Nat) (ys : List Value) (hs : a.eval s = v) (hown : w.ownsRow base 5 1 v n ys)
    (A : Option Addr) (m c : Nat) (xs : List UInt8) (hx : a.eval x = .slice A m c) (hB : Bs w A xs) (hm : m = xs.length) (hA : A = none → c = 0)
    (h63 : n + m ≤ 1000000000) (hbase : base ≤ w.heap.size)
    (h : ∀ v' w', w'.ownsRow base 5 1 v' (n + m) (ys ++ xs.map bv) → w.grownBy w' v.ownBlock → K (a.put o.dst v') w') : if Region.wanted o (yielded ops a.tmps) = true then Oper.wp Tryd.prog o a w K Q else E := by
  have hw : Region.wanted o (yielded ops a.tmps) = true := by simp [Region.wanted, hgd]
  rw [if_pos hw]
  exact wp_append_bs s x ho base v n ys hs hown A m c xs hx hB hm hA h63 hbase h
theorem Bs.kept' {S : Nat → Prop} {w w' : World} {A : Option Addr} {xs : List UInt8} (h : Bs w A xs) (hk : Kept S w w') (hS : ∀ ad, A = some ad → xs = [] ∨ ¬ S ad.block) : Bs w' A xs := by
  by_cases he : xs = []
  · subst he; exact Bs.nil _ _
  · exact h.kept hk fun ad e => (hS ad e).resolve_left he
theorem cell_off (w : World) (G i j : Nat) (u : Value) (h : i ≠ j) : (w.setCell ⟨G, i, none⟩ u).cell? ⟨G, j, none⟩ = w.cell? ⟨G, j, none⟩ := by
  apply World.cell?_setCell_other
  intro e
  injection e with _ e
  exact h e
theorem str_lss (a b : ByteArray) : Op.bytesLess a.toList b.toList = decide (a.data.toList < b.data.toList) := by
  rw [Go.Proofs.bytesLess_eq, Lib.toList_data, Lib.toList_data]
theorem str_eq (a b : ByteArray) : (a.toList == b.toList) = decide (a = b) := by
  rw [Bool.eq_iff_iff, beq_iff_eq, decide_eq_true_eq]
  rw [Lib.toList_data, Lib.toList_data]
  refine ⟨fun h => ?_, fun h => by rw [h]⟩
  cases a; cases b
  simp only at h
  congr 1
  exact Array.toList_inj.1 h
end Go.Proofs.YtefpigakhhfcaaaDoor
end

/-! code: fold, Num, Zig, Text; courantref01: Num, Zig, Text: the same bytes. -/
section
set_option linter.unusedVariables false
set_option linter.unusedSimpArgs false
namespace Go.Proofs.YtefpigakhhfcaaaDoor
open Go.RowKit

/-- A number as bytes, the lowest seven bits first. -/
def numF : Nat → Nat → List UInt8
  | 0, v => [UInt8.ofNat v]
  | k + 1, v => if v < 128 then [UInt8.ofNat v] else UInt8.ofNat (v % 128 + 128) :: numF k (v / 128)
def numB (v : Nat) : List UInt8 := numF 10 v
/-- A length as bytes. -/
def zigB (n : Nat) : List UInt8 := numB (2 * n)
def textB (b : List UInt8) : List UInt8 := zigB b.length ++ b
theorem num_len (k v : Nat) : 1 ≤ (numF k v).length ∧ (numF k v).length ≤ k + 1 := by
  induction k generalizing v with
  | zero => simp [numF]
  | succ k ih =>
    simp only [numF]
    split
    · simp
    · have := ih (v / 128); simp; omega
theorem bits_or_u8_nat (a b : Nat) (ha : a < 256) (hb : b < 256) : bits .or .u8 (a : Int) (b : Int) = ((a ||| b : Nat) : Int) := by
  have hx : a ||| b < 2 ^ 8 := Nat.or_lt_two_pow (by omega) (by omega)
  have h1 : (BitVec.ofInt 8 (a : Int)).toNat = a := by
    rw [BitVec.ofInt_natCast, BitVec.toNat_ofNat]; exact Nat.mod_eq_of_lt (by omega)
  have h2 : (BitVec.ofInt 8 (b : Int)).toNat = b := by
    rw [BitVec.ofInt_natCast, BitVec.toNat_ofNat]; exact Nat.mod_eq_of_lt (by omega)
  show IntKind.u8.wrap ((BitVec.ofInt 8 (a : Int) ||| BitVec.ofInt 8 (b : Int)).toNat : Int) = _
  rw [BitVec.toNat_or, h1, h2, IntKind.wrap_u8]
  omega
theorem or128 (v : Nat) : bits .or .u8 ((v : Int) % 256) 128 = ((v % 128 + 128 : Nat) : Int) := by
  rw [show (v : Int) % 256 = ((v % 256 : Nat) : Int) by omega]
  refine (bits_or_u8_nat (v % 256) 128 (by omega) (by omega)).trans ?_
  congr 1
  have h := Nat.two_pow_add_eq_or_of_lt (i := 7) (b := v % 128) (by omega) 1
  by_cases hv : v % 256 < 128
  · rw [Nat.or_comm, show v % 256 = v % 128 by omega]; simpa [Nat.add_comm] using h.symm
  · rw [show v % 256 = 2 ^ 7 * 1 + v % 128 by omega, h, Nat.or_assoc, Nat.or_comm (v % 128), ← Nat.or_assoc, Nat.or_self, ← h]; omega
end Go.Proofs.YtefpigakhhfcaaaDoor
end

/-! code: fold, Zig, Text; courantref01: Zig, Text. -/
section
set_option linter.unusedVariables false
set_option linter.unusedSimpArgs false
namespace Go.Proofs.YtefpigakhhfcaaaDoor
open Go.RowKit

theorem bits_xor_zero (n : Nat) (h : n < 18446744073709551616) : bits .xor .u64 (n : Int) 0 = (n : Int) := by
  have h1 : (BitVec.ofInt 64 (n : Int)).toNat = n := by
    rw [BitVec.ofInt_natCast, BitVec.toNat_ofNat]; exact Nat.mod_eq_of_lt (by omega)
  show IntKind.u64.wrap ((BitVec.ofInt 64 (n : Int) ^^^ BitVec.ofInt 64 0).toNat : Int) = _
  rw [BitVec.toNat_xor, h1, show (BitVec.ofInt 64 0).toNat = 0 from rfl, Nat.xor_zero, IntKind.wrap_u64]
  omega
theorem numB_len (v : Nat) : 1 ≤ (numB v).length ∧ (numB v).length ≤ 11 := num_len 10 v
theorem textB_len (b : List UInt8) : (textB b).length = (zigB b.length).length + b.length := by simp [textB]
end Go.Proofs.YtefpigakhhfcaaaDoor
end

/-! Pairs that came in, as they lie; keyed.Bytes. -/
section
set_option linter.unusedVariables false
set_option linter.unusedSimpArgs false
namespace Go.Proofs.YtefpigakhhfcaaaDoor
open Go.RowKit

/-- A pair: its key, its bytes, whether it goes; where its bytes lie. -/
structure PV where
  key : ByteArray
  b : List UInt8
  gone : Bool
  A : Option Addr
  c : Nat
def PV.val (p : PV) : Value := .slice p.A p.b.length p.c
def PV.cells (p : PV) : List Value := [.string p.key, p.val, .bool p.gone]
def cellsP (ps : List PV) : List Value := ps.flatMap PV.cells
/-- What of it is compared. -/
def PV.core (p : PV) : ByteArray × List UInt8 × Bool := (p.key, p.b, p.gone)
def PV.Ok (w : World) (p : PV) : Prop := Bs w p.A p.b ∧ (p.A = none → p.c = 0)
structure PC (w : World) (ad : Addr) (p : PV) : Prop where
  c0 : w.cell? ad = some (.string p.key)
  c1 : w.cell? ⟨ad.block, ad.off + 1, none⟩ = some p.val
  c2 : w.cell? ⟨ad.block, ad.off + 2, none⟩ = some (.bool p.gone)
/-- Pairs that can be read. -/
def PsAt (w : World) (A : Option Addr) (ps : List PV) : Prop := ∀ (j : Nat) p, ps[j]? = some p → ∃ ad, A = some ad ∧ PC w (ad.add (j * 3)) p ∧ p.Ok w
theorem PsAt.kept {w w' : World} {A : Option Addr} {ps : List PV} (h : PsAt w A ps) (hk : Kept (fun _ => False) w w') : PsAt w' A ps := fun j p hp => by
  obtain ⟨ad, h1, h2, h3⟩ := h j p hp
  exact ⟨ad, h1, ⟨hk.cell h2.c0 (by simp), hk.cell h2.c1 (by simp), hk.cell h2.c2 (by simp)⟩, h3.1.kept hk (by simp), h3.2⟩
def kb (s : ByteArray) : List UInt8 := s.data.toList
def pairB (p : PV) : List UInt8 := textB (kb p.key) ++ (if p.gone then [1, 0] else 0 :: textB p.b)
/-- Pairs as bytes. -/
def bytesP (ps : List PV) : List UInt8 := zigB ps.length ++ ps.flatMap pairB
theorem flat_snoc (ps : List PV) (k : Nat) (p : PV) (h : ps[k]? = some p) : (ps.take (k + 1)).flatMap pairB = (ps.take k).flatMap pairB ++ pairB p := by
  rw [List.take_add_one, h, List.flatMap_append]; simp
theorem flat_le (ps : List PV) (k : Nat) : ((ps.take k).flatMap pairB).length ≤ (ps.flatMap pairB).length := by
  conv => rhs; rw [← List.take_append_drop k ps, List.flatMap_append, List.length_append]
  omega
/-- []byte of a string: bytes of its own. -/
theorem str_bytes (W : World) (s : ByteArray) : ∃ c W', (convert 9 31 (.string s)).run Tryd.prog W = .ok (.slice (some ⟨W.heap.size, 0, none⟩) s.size c) W' ∧ Bs W' (some ⟨W.heap.size, 0, none⟩) (kb s) ∧ Kept (fun _ => False) W W' := by
  refine ⟨_, _, run_bytes_of_string W 9 31 5 s Tryd.underlying9 Tryd.underlying31 Tryd.underlying5, ⟨fun e => (by cases e), ?_⟩, ((Kept.refl _ W).drew).alloc _⟩
  intro ad e j u hu
  injection e with e
  subst e
  rw [List.getElem?_map] at hu
  have hj : j < s.data.size := by
    rcases Nat.lt_or_ge j s.data.size with h | h
    · exact h
    · rw [List.getElem?_eq_none (by unfold kb; simpa using h)] at hu; cases hu
  have hx : (kb s)[j]? = some s.data[j] := by unfold kb; rw [Array.getElem?_toList]; simp [hj]
  rw [hx] at hu
  simp only [Option.map_some, Option.some.injEq] at hu
  subst hu
  have h9 : (W.drew.alloc (.cells (bytesRow s (grownCap W s.size 0 5)) 5 ((bytesRow s (grownCap W s.size 0 5)).size, (bytesRow s (grownCap W s.size 0 5)).size + 1))).heap[W.heap.size]? = some (.cells (bytesRow s (grownCap W s.size 0 5)) 5 ((bytesRow s (grownCap W s.size 0 5)).size, (bytesRow s (grownCap W s.size 0 5)).size + 1)) := heap_alloc_new W.drew _
  have h8 : (⟨W.heap.size, 0, none⟩ : Addr).add j = ⟨W.heap.size, j, none⟩ := by unfold Addr.add; split <;> simp_all
  rw [h8]
  simp only [World.cell?, h9]
  rw [bytesRow_at s _ j hj]
  rfl
theorem kb_size (s : ByteArray) : (kb s).length = s.size := by simp [kb]
/-- Bytes of a call's own that grow. -/
def Acc (w W : World) (v : Value) (xs : List UInt8) : Prop := W.ownsRow w.heap.size 5 1 v xs.length (xs.map bv) ∧ Kept (fun _ => False) w W
theorem Acc.nil (w : World) : Acc w w (.slice none 0 0) [] := ⟨World.ownsRow_nil _ _ _ _, Kept.refl _ _⟩
theorem Acc.stay {w W W' : World} {v : Value} {xs : List UInt8} (h : Acc w W v xs) (hk : Kept (fun _ => False) W W') : Acc w W' v xs := ⟨own_kept h.1 hk (by simp), h.2.trans' hk⟩
theorem Acc.grow {w W W' : World} {v v' : Value} {xs : List UInt8} {ys : List UInt8} (h : Acc w W v xs) (ho : W'.ownsRow w.heap.size 5 1 v' (xs.length + ys.length) (xs.map bv ++ ys.map bv)) (hg : W.grownBy W' v.ownBlock) : Acc w W' v' (xs ++ ys) :=
  ⟨by rw [List.length_append, List.map_append]; exact ho, h.2.grown hg (fun k e hk => by have := own_ge h.1 k e; omega)⟩
theorem wpList_append_acc {w W : World} {ops : Array Oper} {rest : List Oper} {o : Oper} {a : Act} {Q : Exit → Act → World → Prop} (hgd : o.guard = none) (s x : Operand)
    (ho : o.op = .call { callee := .builtin .append, args := #[s, x], argTypes := #[31, 31] })
    (v : Value) (xs : List UInt8) (hs : a.eval s = v) (hown : Acc w W v xs)
    (A : Option Addr) (m c : Nat) (ys : List UInt8) (hx : a.eval x = .slice A m c) (hB : Bs W A ys) (hm : m = ys.length) (hA : A = none → c = 0) (h63 : xs.length + ys.length ≤ 1000000000)
    (h : ∀ v' w', Acc w w' v' (xs ++ ys) → W.grownBy w' v.ownBlock → wpList Tryd.prog ops Q rest (a.put o.dst v') w') : wpList Tryd.prog ops Q (o :: rest) a W := by
  subst hm
  refine wpList_append_bs hgd s x ho w.heap.size v xs.length _ hs hown.1 A _ c ys hx hB rfl hA h63 hown.2.size ?_
  intro v' w' h1 h2
  exact h v' w' (hown.grow h1 h2) h2
theorem step_append_acc {w W : World} {ops : Array Oper} {o : Oper} {a : Act} {K : Act → World → Prop} {Q : Exit → Act → World → Prop} {E : Prop} (hgd : o.guard = none) (s x : Operand)
    (ho : o.op = .call { callee := .builtin .append, args := #[s, x], argTypes := #[31, 31] })
    (v : Value) (xs : List UInt8) (hs : a.eval s = v) (hown : Acc w W v xs)
    (A : Option Addr) (m c : Nat) (ys : List UInt8) (hx : a.eval x = .slice A m c) (hB : Bs W A ys) (hm : m = ys.length) (hA : A = none → c = 0) (h63 : xs.length + ys.length ≤ 1000000000)
    (h : ∀ v' w', Acc w w' v' (xs ++ ys) → W.grownBy w' v.ownBlock → K (a.put o.dst v') w') : if Region.wanted o (yielded ops a.tmps) = true then Oper.wp Tryd.prog o a W K Q else E := by
  subst hm
  refine step_append_bs hgd s x ho w.heap.size v xs.length _ hs hown.1 A _ c ys hx hB rfl hA h63 hown.2.size ?_
  intro v' w' h1 h2
  exact h v' w' (hown.grow h1 h2) h2
/-- Bytes handed back. -/
theorem ClonePost.acc {w w' : World} {xs : List UInt8} {e : Ending} (h : ClonePost w xs e w') : ∃ A c, e = .returned (.slice A xs.length c) ∧ Acc w w' (.slice A xs.length c) xs ∧ Bs w' A xs ∧ (A = none → c = 0) := by
  obtain ⟨v, rfl, ho, hk⟩ := h
  obtain ⟨A, c, rfl, -, hb, hA, -⟩ := Bs.of_own ho
  exact ⟨A, c, rfl, ⟨ho, hk⟩, hb, hA⟩
section
variable {W W' : World} {D : Nat} {p : PV}
end
end Go.Proofs.YtefpigakhhfcaaaDoor
end

/-! keyed.Bytes: pairs as bytes. -/
section
set_option linter.unusedVariables false
set_option linter.unusedSimpArgs false
namespace Go.Proofs.YtefpigakhhfcaaaDoor
open Go.RowKit

theorem pairs_le (ps : List PV) : ps.length ≤ (ps.flatMap pairB).length := by
  induction ps with
  | nil => simp
  | cons q qs ih =>
    have : 1 ≤ (pairB q).length := by unfold pairB; split <;> simp <;> omega
    rw [List.flatMap_cons, List.length_append, List.length_cons]; omega
theorem bytesP_le {ps : List PV} {n m : Nat} (hn : n = ps.length) (h : (bytesP ps).length ≤ m) : n ≤ m := by
  have := pairs_le ps
  simp only [bytesP, List.length_append] at h
  omega
theorem part_le {ps : List PV} {k m : Nat} {p : PV} (hp : ps[k]? = some p) (h : (bytesP ps).length ≤ m) : (zigB ps.length).length + ((ps.take k).flatMap pairB).length + (pairB p).length ≤ m := by
  have h1 := flat_le ps (k + 1)
  rw [flat_snoc ps k p hp, List.length_append] at h1
  simp only [bytesP, List.length_append] at h
  omega
theorem num_le {ps : List PV} {n k m : Nat} {key : ByteArray} {b : List UInt8} {gone : Bool} {pA : Option Addr} {pc : Nat} (hn : n = ps.length) (hp : ps[k]? = some ⟨key, b, gone, pA, pc⟩) (h : (bytesP ps).length ≤ m) :
    (zigB n ++ (ps.take k).flatMap pairB).length + (textB (kb key)).length + 2 ≤ m ∧ (gone = false → (zigB n ++ (ps.take k).flatMap pairB).length + (textB (kb key)).length + 1 + (textB b).length ≤ m) := by
  have := part_le hp h
  subst hn
  simp only [List.length_append]
  cases gone
  · simp only [pairB, List.length_append, if_false, Bool.false_eq_true, List.length_cons] at this
    have h2 : 1 ≤ (textB b).length := by
      have := (numB_len (2 * b.length)).1
      rw [textB_len]; unfold zigB; omega
    exact ⟨by omega, fun _ => by omega⟩
  · simp only [pairB, List.length_append, if_true, List.length_cons, List.length_nil] at this
    exact ⟨by omega, fun e => by cases e⟩
theorem textB_nil_len : (textB []).length = 1 := by decide
theorem textB_ge (b : List UInt8) : b.length ≤ (textB b).length := by rw [textB_len]; omega
end Go.Proofs.YtefpigakhhfcaaaDoor
end

/-! courantref22.Bytes: pairs as bytes. -/
section
set_option linter.unusedVariables false
set_option linter.unusedSimpArgs false
namespace Go.Proofs.YtefpigakhhfcaaaDoor
open Go.RowKit

end Go.Proofs.YtefpigakhhfcaaaDoor
end

/-! code.Reader: how it lies; New, Num, Zig, Raw, Text over bytes that were made. -/
section
set_option linter.unusedVariables false
set_option linter.unusedSimpArgs false
namespace Go.Proofs.YtefpigakhhfcaaaDoor
open Go.RowKit

section
variable {w w' : World} {R k : Nat} {v : Value}
end
section
variable {w w' : World} {R k n c : Nat} {A : Option Addr} {xs : List UInt8}
end
theorem and127 (x : Nat) (h : x < 256) : bits .and .u8 (x : Int) 127 = ((x % 128 : Nat) : Int) := by
  have h1 : (BitVec.ofInt 8 (x : Int)).toNat = x := by
    rw [BitVec.ofInt_natCast, BitVec.toNat_ofNat]; exact Nat.mod_eq_of_lt (by omega)
  have h2 : x &&& 127 = x % 128 := Nat.and_two_pow_sub_one_eq_mod x 7
  show IntKind.u8.wrap ((BitVec.ofInt 8 (x : Int) &&& BitVec.ofInt 8 127).toNat : Int) = _
  rw [BitVec.toNat_and, h1, show (BitVec.ofInt 8 127).toNat = 127 from rfl, h2, IntKind.wrap_u8]
  omega
theorem orAdd (x y m : Nat) (hx : x < 2 ^ m) (h : x + y * 2 ^ m < 18446744073709551616) : bits .or .u64 (x : Int) ((y * 2 ^ m : Nat) : Int) = ((x + y * 2 ^ m : Nat) : Int) := by
  have h1 : (BitVec.ofInt 64 (x : Int)).toNat = x := by
    rw [BitVec.ofInt_natCast, BitVec.toNat_ofNat]; exact Nat.mod_eq_of_lt (by omega)
  have h2 : (BitVec.ofInt 64 ((y * 2 ^ m : Nat) : Int)).toNat = y * 2 ^ m := by
    rw [BitVec.ofInt_natCast, BitVec.toNat_ofNat]; exact Nat.mod_eq_of_lt (by omega)
  have h3 : x ||| y * 2 ^ m = x + y * 2 ^ m := by
    have := Nat.two_pow_add_eq_or_of_lt (i := m) (b := x) hx y
    rw [Nat.or_comm, Nat.mul_comm y, ← this, Nat.add_comm]
  show IntKind.u64.wrap ((BitVec.ofInt 64 (x : Int) ||| BitVec.ofInt 64 ((y * 2 ^ m : Nat) : Int)).toNat : Int) = _
  rw [BitVec.toNat_or, h1, h2, h3, IntKind.wrap_u64]
  omega
theorem pow128 (j : Nat) : 128 ^ j = 2 ^ (7 * j) := by rw [Nat.pow_mul]
theorem bs_at {w : World} {ad : Addr} {xs : List UInt8} {k : Nat} {x : UInt8} (h : Bs w (some ad) xs) (hx : xs[k]? = some x) : w.cell? (ad.add k) = some (.int .u8 (x.toNat : Nat)) := h.2 ad rfl k _ (by rw [List.getElem?_map, hx]; rfl)
/-- What one more byte does to a number. -/
theorem num_step {acc U j V : Nat} (hV : V ≤ 2000000000000) (he : acc + U * 128 ^ j = V) (ha : acc < 128 ^ j) (hU : 0 < j → 1 ≤ U) : j ≤ 5 ∧ acc ≤ 2000000000000 ∧ U ≤ 2000000000000 ∧ U % 128 * 2 ^ (7 * j) ≤ 2000000000000 ∧ acc + U % 128 * 2 ^ (7 * j) + U / 128 * 128 ^ (j + 1) = V ∧ acc + U % 128 * 2 ^ (7 * j) < 128 ^ (j + 1) ∧ acc < 2 ^ (7 * j) := by
  rw [← pow128]
  have h1 : U * 1 ≤ U * 128 ^ j := Nat.mul_le_mul_left _ (Nat.one_le_pow _ _ (by omega))
  have h2 : U % 128 * 128 ^ j ≤ U * 128 ^ j := Nat.mul_le_mul_right _ (by omega)
  have h3 : U * 128 ^ j = U % 128 * 128 ^ j + U / 128 * 128 ^ (j + 1) := by
    rw [Nat.pow_succ, ← Nat.mul_assoc, Nat.mul_right_comm, ← Nat.add_mul]
    congr 1
    omega
  have h4 : U % 128 * 128 ^ j ≤ 127 * 128 ^ j := Nat.mul_le_mul_right _ (by omega)
  refine ⟨?_, by omega, by omega, by omega, by omega, by rw [Nat.pow_succ]; omega, ha⟩
  rcases Nat.lt_or_ge 5 j with h | h
  · have h5 : 128 ^ 6 ≤ 128 ^ j := Nat.pow_le_pow_right (by omega) h
    have h6 : 1 * 128 ^ j ≤ U * 128 ^ j := Nat.mul_le_mul_right _ (hU (by omega))
    have h7 : (128 : Nat) ^ 6 = 4398046511104 := by decide
    omega
  · exact h
end Go.Proofs.YtefpigakhhfcaaaDoor
end

/-! couranthelp.Pair; courantlaw23.few. -/
section
set_option linter.unusedVariables false
set_option linter.unusedSimpArgs false
namespace Go.Proofs.YtefpigakhhfcaaaDoor
open Go.RowKit

theorem PV.Ok.kept {w w' : World} {p : PV} (h : p.Ok w) (hk : Kept (fun _ => False) w w') : p.Ok w' := ⟨h.1.kept hk (by simp), h.2⟩
end Go.Proofs.YtefpigakhhfcaaaDoor
end

/-! couranthelp.Same over pairs; courantlaw23.pairs. -/
section
set_option linter.unusedVariables false
set_option linter.unusedSimpArgs false
namespace Go.Proofs.YtefpigakhhfcaaaDoor
open Go.RowKit

theorem core_snoc {ps qs : List PV} {k : Nat} {p q : PV} (hp : ps[k]? = some p) (hq : qs[k]? = some q) (h : (ps.take k).map PV.core = (qs.take k).map PV.core) (he : p.core = q.core) : (ps.take (k + 1)).map PV.core = (qs.take (k + 1)).map PV.core := by
  rw [List.take_add_one, List.take_add_one, hp, hq, List.map_append, List.map_append, h]; simp [he]
theorem core_no {ps qs : List PV} {k : Nat} {p q : PV} (hp : ps[k]? = some p) (hq : qs[k]? = some q) (he : p.core ≠ q.core) : ps.map PV.core ≠ qs.map PV.core := by
  intro e
  have := congrArg (fun l => l[k]?) e
  simp only [List.getElem?_map, hp, hq, Option.map_some, Option.some.injEq] at this
  exact he this
end Go.Proofs.YtefpigakhhfcaaaDoor
end

/-! courantlaw23.few; slices.Clone over pairs; couranthelp.CopyPairs. -/
section
set_option linter.unusedVariables false
set_option linter.unusedSimpArgs false
namespace Go.Proofs.YtefpigakhhfcaaaDoor
open Go.RowKit

def PV.Sz (p : PV) : Prop := p.key.size ≤ 140737488355328 ∧ p.b.length ≤ 140737488355328
def wt (p : PV) : Nat := p.key.size + p.b.length + 10
def fewN (ps : List PV) : Nat := ((ps.take 50).map wt).sum
def fewP (ps : List PV) : Bool := decide (ps.length < 50) && decide (fewN ps < 3000)
theorem few_snoc (ps : List PV) (k : Nat) (p : PV) (h : ps[k]? = some p) : ((ps.take (k + 1)).map wt).sum = ((ps.take k).map wt).sum + wt p := by
  rw [List.take_add_one, h]; simp
theorem drewN2 (w : World) (a b : Nat) : (w.drewN a).drewN b = w.drewN (a + b) := by simp [World.drewN, Nat.add_assoc]
end Go.Proofs.YtefpigakhhfcaaaDoor
end
