import Derived.Test.YtcifhfdjigfeiaaGreatDoorVh
import Derived.Deep.QuietTactic
import Derived.BigQuiet
import Derived.Sort.Walk0
import Derived.Deep.AppendLies
import Derived.Deep.RegionHeld3
import Derived.Deep.RegionLaw
/-! General laws: lists of cells, slices of pairs, append of pairs and of bytes. -/
section
set_option linter.unusedVariables false
set_option linter.unusedSimpArgs false
namespace Go.Proofs.YtcifhfdjigfeiaaGreatDoor
open Go.RowKit

theorem infoP : (Tryz.prog.info? 53).map (fun i => (i.zero, i.size, i.bytes)) = some (some (.agg #[.string ⟨#[]⟩, .slice none 0 0, .bool false]), 3, 48) := by kernel_rfl
/-- What a slice reads as, cell by cell. -/
def Cs (w : World) (A : Option Addr) (xs : List Value) : Prop := (A = none → xs = []) ∧ ∀ ad, A = some ad → ∀ (j : Nat) u, xs[j]? = some u → w.cell? (ad.add j) = some u
theorem Cs.kept {S : Nat → Prop} {w w' : World} {A : Option Addr} {xs : List Value} (h : Cs w A xs) (hk : Kept S w w') (hS : ∀ ad, A = some ad → ¬ S ad.block) : Cs w' A xs :=
  ⟨h.1, fun ad e j u hu => hk.cell (h.2 ad e j u hu) (by rw [add_block]; exact hS ad e)⟩
theorem slice_toP (W : World) (A : Option Addr) (l n c : Nat) (hn : n ≤ c) : (Instr.slice 30 (.slice A l c) none (some (.int .i64 n)) none).run Tryz.prog W = .ok (.slice A n c) W := by
  have hsz : ∀ W, (sizeOf 53).run Tryz.prog W = .ok 3 W := fun W => by kernel_rfl
  have h1 : (0 : Int) ≤ (n : Int) ∧ (n : Int) ≤ (c : Int) := by omega
  simp only [Instr.slice, Sem.run_bind, run_underlying Tryz.underlying30, Result.andThen, Instr.sliceBounds, Instr.sliceBound, asIntOf, Sem.run_pure, if_pos h1, hsz, Int.toNat_natCast, Nat.zero_mul, Nat.sub_zero]
  split
  · rfl
  · rw [add0 A]
theorem slice_fromP (W : World) (A : Option Addr) (l n c : Nat) (hn : n ≤ l) (hl : l ≤ c) : (Instr.slice 30 (.slice A l c) (some (.int .i64 n)) none none).run Tryz.prog W = .ok (.slice (if c = n then A else A.map (·.add (n * 3))) (l - n) (c - n)) W := by
  have hsz : ∀ W, (sizeOf 53).run Tryz.prog W = .ok 3 W := fun W => by kernel_rfl
  have h1 : (0 : Int) ≤ (n : Int) ∧ (n : Int) ≤ (l : Int) := by omega
  have h2 : (0 : Int) ≤ (l : Int) ∧ (l : Int) ≤ (c : Int) := by omega
  have h3 : n ≤ c := by omega
  simp only [Instr.slice, Sem.run_bind, run_underlying Tryz.underlying30, Result.andThen, Instr.sliceBounds, Instr.sliceBound, asIntOf, Sem.run_pure, if_pos h1, if_pos h2, hsz, Int.toNat_natCast]
/-- append(s, xs...) onto a slice of pairs of the call's own. -/
theorem wp_append_ps {w : World} {o : Oper} {a : Act} {K : Act → World → Prop} {Q : Exit → Act → World → Prop} (s x : Operand)
    (ho : o.op = .call { callee := .builtin .append, args := #[s, x], argTypes := #[30, 30] })
    (base : Nat) (v : Value) (n : Nat) (ys : List Value) (hs : a.eval s = v) (hown : w.ownsRow base 53 3 v n ys)
    (A : Option Addr) (m c : Nat) (xs : List Value) (hx : a.eval x = .slice A m c) (hC : Cs w A xs) (hm : xs.length = m * 3) (hone : ∀ u ∈ xs, u.oneCell' = true) (hA : A = none → c = 0)
    (h63 : n + m ≤ 1000000) (hbase : base ≤ w.heap.size)
    (h : ∀ v' w', w'.ownsRow base 53 3 v' (n + m) (ys ++ xs) → w.grownBy w' v.ownBlock → K (a.put o.dst v') w') : o.wp Tryz.prog a w K Q := by
  obtain ⟨i0, hi, hz0, hz1, hz2⟩ := info_parts infoP
  cases A with
  | none =>
    have h1 := hC.1 rfl
    have h2 := hA rfl
    subst h1; subst h2
    have h3 : m = 0 := by simp at hm; omega
    subst h3
    have hrun := run_append_owned_none (P := Tryz.prog) (w := w) base 30 o.type 53 i0 3 Tryz.underlying30 hi v n ys hown
    unfold Oper.wp
    simp [execOp, ho, resolve, invoke, builtin, hs, hx, hrun, Result.andThen]
    exact h v w (by simpa using hown) ⟨rfl, rfl, rfl, Nat.le_refl _, fun _ _ _ => rfl⟩
  | some ad =>
    refine wp_append_own w s x 30 ho base 53 i0 _ 3 48 Tryz.underlying30 hi hz0 hz1 hz2 rfl (by decide) v n ys hs hown ad m c xs hx hm (hC.2 ad rfl) hone (by unfold maxLen; omega) (by omega) hbase ?_
    intro v' w' h2 h3 _
    exact h v' w' h2 h3
theorem step_append_ps {w : World} {ops : Array Oper} {o : Oper} {a : Act} {K : Act → World → Prop} {Q : Exit → Act → World → Prop} {E : Prop} (hgd : o.guard = none) (s x : Operand)
    (ho : o.op = .call { callee := .builtin .append, args := #[s, x], argTypes := #[30, 30] })
    (base : Nat) (v : Value) (n : Nat) (ys : List Value) (hs : a.eval s = v) (hown : w.ownsRow base 53 3 v n ys)
    (A : Option Addr) (m c : Nat) (xs : List Value) (hx : a.eval x = .slice A m c) (hC : Cs w A xs) (hm : xs.length = m * 3) (hone : ∀ u ∈ xs, u.oneCell' = true) (hA : A = none → c = 0)
    (h63 : n + m ≤ 1000000) (hbase : base ≤ w.heap.size)
    (h : ∀ v' w', w'.ownsRow base 53 3 v' (n + m) (ys ++ xs) → w.grownBy w' v.ownBlock → K (a.put o.dst v') w') : if Region.wanted o (yielded ops a.tmps) = true then Oper.wp Tryz.prog o a w K Q else E := by
  have hw : Region.wanted o (yielded ops a.tmps) = true := by simp [Region.wanted, hgd]
  rw [if_pos hw]
  exact wp_append_ps s x ho base v n ys hs hown A m c xs hx hC hm hone hA h63 hbase h
theorem own_slice {w : World} {base : Nat} {e : TypeId} {size n : Nat} {v : Value} {xs : List Value} (h : w.ownsRow base e size v n xs) : ∃ A c, v = .slice A n c := by
  rcases h.2 with ⟨hv, h0⟩ | ⟨g, cap, cur, hv, _⟩
  · exact ⟨none, 0, by rw [hv, h0]⟩
  · exact ⟨_, _, hv⟩
theorem cs_new (W : World) (cs : List Value) (t : TypeId) : Cs (W.alloc (.cells cs.toArray t)) (some ⟨W.heap.size, 0, none⟩) cs := by
  refine ⟨fun e => by simp at e, fun ad e j u hu => ?_⟩
  injection e with e
  subst e
  exact World.news_of_block (heap_alloc_new W _) j u (by simpa using hu)
/-- append(s, xs...) onto bytes of the call's own, xs nil or not: at an operation; at a step of a region that draws. -/
theorem wp_append_bs {w : World} {o : Oper} {a : Act} {K : Act → World → Prop} {Q : Exit → Act → World → Prop} (s x : Operand)
    (ho : o.op = .call { callee := .builtin .append, args := #[s, x], argTypes := #[51, 51] })
    (base : Nat) (v : Value) (n : Nat) (ys : List Value) (hs : a.eval s = v) (hown : w.ownsRow base 5 1 v n ys)
    (A : Option Addr) (m c : Nat) (xs : List UInt8) (hx : a.eval x = .slice A m c) (hB : Bs w A xs) (hm : m = xs.length) (hA : A = none → c = 0)
    (h63 : n + m ≤ 1000000000) (hbase : base ≤ w.heap.size)
    (h : ∀ v' w', w'.ownsRow base 5 1 v' (n + m) (ys ++ xs.map bv) → w.grownBy w' v.ownBlock → K (a.put o.dst v') w') : o.wp Tryz.prog a w K Q := by
  obtain ⟨i0, hi, hz0, hz1, hz2⟩ := info_parts infoU8
  cases A with
  | none =>
    have h1 := hB.1 rfl
    have h2 := hA rfl
    subst h1; subst h2
    simp only [List.length_nil] at hm
    subst hm
    have hrun := run_append_owned_none (P := Tryz.prog) (w := w) base 51 o.type 5 i0 1 Tryz.underlying51 hi v n ys hown
    unfold Oper.wp
    simp [execOp, ho, resolve, invoke, builtin, hs, hx, hrun, Result.andThen]
    exact h v w (by simpa using hown) ⟨rfl, rfl, rfl, Nat.le_refl _, fun _ _ _ => rfl⟩
  | some ad =>
    refine wp_append_own w s x 51 ho base 5 i0 (.int .u8 0) 1 1 Tryz.underlying51 hi hz0 hz1 hz2 rfl (by decide) v n ys hs hown ad m c (xs.map bv) hx (by rw [List.length_map, hm, Nat.mul_one]) (hB.2 ad rfl) (bv_one xs) (by unfold maxLen; omega) (by omega) hbase ?_
    intro v' w' h2 h3 _
    exact h v' w' h2 h3
theorem step_append_bs {w : World} {ops : Array Oper} {o : Oper} {a : Act} {K : Act → World → Prop} {Q : Exit → Act → World → Prop} {E : Prop} (hgd : o.guard = none) (s x : Operand)
    (ho : o.op = .call { callee := .builtin .append, args := #[s, x], argTypes := #[51, 51] })
    (base : Nat) (v : Value) (n : Nat) (ys : List Value) (hs : a.eval s = v) (hown : w.ownsRow base 5 1 v n ys)
    (A : Option Addr) (m c : Nat) (xs : List UInt8) (hx : a.eval x = .slice A m c) (hB : Bs w A xs) (hm : m = xs.length) (hA : A = none → c = 0)
    (h63 : n + m ≤ 1000000000) (hbase : base ≤ w.heap.size)
    (h : ∀ v' w', w'.ownsRow base 5 1 v' (n + m) (ys ++ xs.map bv) → w.grownBy w' v.ownBlock → K (a.put o.dst v') w') : if Region.wanted o (yielded ops a.tmps) = true then Oper.wp Tryz.prog o a w K Q else E := by
  have hw : Region.wanted o (yielded ops a.tmps) = true := by simp [Region.wanted, hgd]
  rw [if_pos hw]
  exact wp_append_bs s x ho base v n ys hs hown A m c xs hx hB hm hA h63 hbase h
theorem Bs.kept' {S : Nat → Prop} {w w' : World} {A : Option Addr} {xs : List UInt8} (h : Bs w A xs) (hk : Kept S w w') (hS : ∀ ad, A = some ad → xs = [] ∨ ¬ S ad.block) : Bs w' A xs := by
  by_cases he : xs = []
  · subst he; exact Bs.nil _ _
  · exact h.kept hk fun ad e => (hS ad e).resolve_left he
theorem cell_off (w : World) (G i j : Nat) (u : Value) (h : i ≠ j) : (w.setCell ⟨G, i, none⟩ u).cell? ⟨G, j, none⟩ = w.cell? ⟨G, j, none⟩ := by
  apply World.cell?_setCell_other
  intro e
  injection e with _ e
  exact h e
theorem str_lss (a b : ByteArray) : Op.bytesLess a.toList b.toList = decide (a.data.toList < b.data.toList) := by
  rw [Go.Proofs.bytesLess_eq, Lib.toList_data, Lib.toList_data]
theorem str_eq (a b : ByteArray) : (a.toList == b.toList) = decide (a = b) := by
  rw [Bool.eq_iff_iff, beq_iff_eq, decide_eq_true_eq]
  rw [Lib.toList_data, Lib.toList_data]
  refine ⟨fun h => ?_, fun h => by rw [h]⟩
  cases a; cases b
  simp only at h
  congr 1
  exact Array.toList_inj.1 h
end Go.Proofs.YtcifhfdjigfeiaaGreatDoor
end

/-! code: fold, Num, Zig, Text; courantref01: Num, Zig, Text: the same bytes. -/
section
set_option linter.unusedVariables false
set_option linter.unusedSimpArgs false
namespace Go.Proofs.YtcifhfdjigfeiaaGreatDoor
open Go.RowKit

/-- A number as bytes, the lowest seven bits first. -/
def numF : Nat → Nat → List UInt8
  | 0, v => [UInt8.ofNat v]
  | k + 1, v => if v < 128 then [UInt8.ofNat v] else UInt8.ofNat (v % 128 + 128) :: numF k (v / 128)
def numB (v : Nat) : List UInt8 := numF 10 v
/-- A length as bytes. -/
def zigB (n : Nat) : List UInt8 := numB (2 * n)
def textB (b : List UInt8) : List UInt8 := zigB b.length ++ b
theorem num_len (k v : Nat) : 1 ≤ (numF k v).length ∧ (numF k v).length ≤ k + 1 := by
  induction k generalizing v with
  | zero => simp [numF]
  | succ k ih =>
    simp only [numF]
    split
    · simp
    · have := ih (v / 128); simp; omega
theorem bits_or_u8_nat (a b : Nat) (ha : a < 256) (hb : b < 256) : bits .or .u8 (a : Int) (b : Int) = ((a ||| b : Nat) : Int) := by
  have hx : a ||| b < 2 ^ 8 := Nat.or_lt_two_pow (by omega) (by omega)
  have h1 : (BitVec.ofInt 8 (a : Int)).toNat = a := by
    rw [BitVec.ofInt_natCast, BitVec.toNat_ofNat]; exact Nat.mod_eq_of_lt (by omega)
  have h2 : (BitVec.ofInt 8 (b : Int)).toNat = b := by
    rw [BitVec.ofInt_natCast, BitVec.toNat_ofNat]; exact Nat.mod_eq_of_lt (by omega)
  show IntKind.u8.wrap ((BitVec.ofInt 8 (a : Int) ||| BitVec.ofInt 8 (b : Int)).toNat : Int) = _
  rw [BitVec.toNat_or, h1, h2, IntKind.wrap_u8]
  omega
theorem or128 (v : Nat) : bits .or .u8 ((v : Int) % 256) 128 = ((v % 128 + 128 : Nat) : Int) := by
  rw [show (v : Int) % 256 = ((v % 256 : Nat) : Int) by omega]
  refine (bits_or_u8_nat (v % 256) 128 (by omega) (by omega)).trans ?_
  congr 1
  have h := Nat.two_pow_add_eq_or_of_lt (i := 7) (b := v % 128) (by omega) 1
  by_cases hv : v % 256 < 128
  · rw [Nat.or_comm, show v % 256 = v % 128 by omega]; simpa [Nat.add_comm] using h.symm
  · rw [show v % 256 = 2 ^ 7 * 1 + v % 128 by omega, h, Nat.or_assoc, Nat.or_comm (v % 128), ← Nat.or_assoc, Nat.or_self, ← h]; omega
set_option maxRecDepth 100000 in
set_option maxHeartbeats 4000000 in
theorem codeNum_any (w : World) (v : Nat) (hv : v < 18446744073709551616) : Calls Tryz.prog 87 #[.int .u64 (v : Nat)] w (ClonePost w (numB v)) := by
  obtain ⟨i0, hi, hz0, hz1, hz2⟩ := info_parts infoU8
  go_enter Tryz.func87, Tryz.ntmps87
  go_wp2_with fail
  go_loopw [0, 3] (fun x l wr => ∃ (k y : Nat) (pre : List UInt8), k ≤ 9 ∧ x = .int .u64 (y : Nat) ∧ Hid (y * 128 ^ k ≤ v) ∧ Hid (pre ++ numF (10 - k) y = numB v) ∧ Hid (pre.length = k) ∧ Hid (wr.ownsRow w.heap.size 5 1 l k (pre.map bv)) ∧ Hid (Kept (fun _ => False) w wr)) (fun x _ _ => (intOf x).toNat)
  case atStart => exact ⟨0, v, [], by omega, rfl, Lib.hid (by simp), Lib.hid rfl, Lib.hid rfl, Lib.hid (World.ownsRow_nil _ _ _ _), Lib.hid (Kept.refl _ _)⟩
  case round =>
    obtain ⟨k, y, pre, hk, rfl, hy, hp, hl, ho, hK⟩ := hrel
    by_cases hge : 128 ≤ y
    · have hge9 : (128 : Int) ≤ (y : Int) := by omega
      have hy9 : (y : Int) ≤ 18446744073709551615 := by
        have h1 := hy.out
        have : y * 1 ≤ y * 128 ^ k := Nat.mul_le_mul_left _ (Nat.one_le_pow _ _ (by omega))
        omega
      have hor := or128 y
      obtain ⟨z, hz⟩ : ∃ z, z = y % 128 + 128 := ⟨_, rfl⟩
      rw [← hz] at hor
      have Hz := Lib.hid hz
      have Ha : Hid (Kept (fun _ => False) w (wr.alloc (.cells #[.int .u8 (z : Nat)] 5))) := Lib.hid (hK.out.alloc _)
      clear hz
      go_wp2_with (at_builtin; refine wpList_append_own _ rfl _ _ 51 rfl w.heap.size 5 i0 (.int .u8 0) 1 1 Tryz.underlying51 hi hz0 hz1 hz2 rfl (by decide) _ k _ rfl (own_kept ho.out ((Kept.refl (fun _ => False) wr).alloc _) (by simp)) _ 1 1 [.int .u8 (z : Nat)] rfl rfl ((cs_new wr [.int .u8 (z : Nat)] 5).2 _ rfl) (by simp [Value.oneCell']) (by unfold maxLen; omega) (by omega) Ha.out.size ?_; intro v' w1 hown hgrow hnil; have HO := Lib.hid hown; have HK1 := Lib.hid (Ha.out.grown hgrow (fun q e hq => by have := own_ge ho.out q e; omega)); clear hown hgrow hnil)
      go_roundw
      case rel =>
        have hpow : y / 128 * 128 ^ (k + 1) ≤ v := by
          have h1 := hy.out
          have h2 : y / 128 * 128 ^ (k + 1) = y / 128 * 128 * 128 ^ k := by rw [Nat.pow_succ]; rw [Nat.mul_assoc, Nat.mul_comm 128]
          have h3 : y / 128 * 128 * 128 ^ k ≤ y * 128 ^ k := Nat.mul_le_mul_right _ (by omega)
          omega
        have hk8 : k ≤ 8 := by
          rcases Nat.lt_or_ge k 9 with h | h
          · omega
          · obtain rfl : k = 9 := by omega
            have := hy.out; omega
        refine ⟨k + 1, y / 128, pre ++ [UInt8.ofNat z], by omega, by go_num, Lib.hid hpow, Lib.hid ?_, Lib.hid (by simp [hl.out]), Lib.hid ?_, HK1⟩
        · have h1 := hp.out
          rw [show 10 - k = (9 - k) + 1 by omega, numF, if_neg (by omega), ← Hz.out] at h1
          rw [show 10 - (k + 1) = 9 - k by omega, List.append_assoc]
          exact h1
        · have := HO.out
          rw [List.map_append]
          have hzb : bv (UInt8.ofNat z) = .int .u8 (z : Nat) := by
            have : z < 256 := by have := Hz.out; omega
            simp [bv, UInt8.toNat_ofNat']; omega
          rw [show ([UInt8.ofNat z].map bv) = [.int .u8 (z : Nat)] by rw [← hzb]; rfl]
          exact this
      case measure => simp [intOf]; omega
    · have hlt9 : ¬ (128 : Int) ≤ (y : Int) := by omega
      have hlt8 : (y : Int) < 128 := by omega
      have Ha : Hid (Kept (fun _ => False) w (wr.alloc (.cells #[.int .u8 (y : Nat)] 5))) := Lib.hid (hK.out.alloc _)
      have hwr : IntKind.u8.wrap (y : Int) = (y : Int) := by rw [IntKind.wrap_u8]; omega
      go_wp2_with (at_builtin; refine wpList_append_own _ rfl _ _ 51 rfl w.heap.size 5 i0 (.int .u8 0) 1 1 Tryz.underlying51 hi hz0 hz1 hz2 rfl (by decide) _ k _ rfl (own_kept ho.out ((Kept.refl (fun _ => False) wr).alloc _) (by simp)) _ 1 1 [.int .u8 (y : Nat)] rfl rfl ((cs_new wr [.int .u8 (y : Nat)] 5).2 _ rfl) (by simp [Value.oneCell']) (by unfold maxLen; omega) (by omega) Ha.out.size ?_; intro v' w1 hown hgrow hnil; have HO := Lib.hid hown; have HK1 := Lib.hid (Ha.out.grown hgrow (fun q e hq => by have := own_ge ho.out q e; omega)); clear hown hgrow hnil)
      go_ret
      have hnb : numB v = pre ++ [UInt8.ofNat y] := by
        have h1 := hp.out
        rw [show 10 - k = (9 - k) + 1 by omega, numF, if_pos (by omega)] at h1
        exact h1.symm
      refine ⟨_, rfl, ?_, HK1.out⟩
      rw [hnb, List.length_append, hl.out, List.map_append]
      have hzb : bv (UInt8.ofNat y) = .int .u8 (y : Nat) := by
        simp [bv, UInt8.toNat_ofNat']; omega
      rw [show ([UInt8.ofNat y].map bv) = [.int .u8 (y : Nat)] by rw [← hzb]; rfl]
      exact HO.out
end Go.Proofs.YtcifhfdjigfeiaaGreatDoor
end

/-! code: fold, Zig, Text; courantref01: Zig, Text. -/
section
set_option linter.unusedVariables false
set_option linter.unusedSimpArgs false
namespace Go.Proofs.YtcifhfdjigfeiaaGreatDoor
open Go.RowKit

theorem bits_xor_zero (n : Nat) (h : n < 18446744073709551616) : bits .xor .u64 (n : Int) 0 = (n : Int) := by
  have h1 : (BitVec.ofInt 64 (n : Int)).toNat = n := by
    rw [BitVec.ofInt_natCast, BitVec.toNat_ofNat]; exact Nat.mod_eq_of_lt (by omega)
  show IntKind.u64.wrap ((BitVec.ofInt 64 (n : Int) ^^^ BitVec.ofInt 64 0).toNat : Int) = _
  rw [BitVec.toNat_xor, h1, show (BitVec.ofInt 64 0).toNat = 0 from rfl, Nat.xor_zero, IntKind.wrap_u64]
  omega
set_option maxRecDepth 100000 in
set_option maxHeartbeats 4000000 in
theorem fold_any (w : World) (n : Nat) (hn : n ≤ 1000000000000) : Calls Tryz.prog 88 #[.int .i64 (n : Nat)] w fun e w' => e = .returned (.int .u64 ((2 * n : Nat) : Int)) ∧ w' = w := by
  have hn9 : (n : Int) ≤ 1000000000000 := by omega
  obtain ⟨m, hm⟩ : ∃ m, m = 2 * n := ⟨_, rfl⟩
  have hx := bits_xor_zero m (by omega)
  have hx1 : (n : Int) * 2 = (m : Int) := by omega
  have hx2 : (2 : Int) * (n : Int) = (m : Int) := by omega
  rw [← hm]
  clear hm hx2
  go_enter Tryz.func88, Tryz.ntmps88
  go_wp2_with fail
  go_ret
  have hd : (n : Int) / 9223372036854775808 = 0 := by omega
  refine ⟨?_, rfl⟩
  show Ending.returned (.int .u64 (bits .xor .u64 (m : Int) ((n : Int) / 9223372036854775808))) = _
  rw [hd, hx]
set_option maxRecDepth 100000 in
set_option maxHeartbeats 4000000 in
theorem codeZig_any (w : World) (n : Nat) (hn : n ≤ 1000000000000) : Calls Tryz.prog 66 #[.int .i64 (n : Nat)] w (ClonePost w (zigB n)) := by
  have H1 := Lib.hid (fold_any w n hn)
  have H2 := Lib.hid (codeNum_any w (2 * n) (by omega))
  clear hn
  go_enter Tryz.func66, Tryz.ntmps66
  go_wp2_with (first
    | (go_at_call 88; refine H1.out.mono ?_; rintro e w ⟨rfl, rfl⟩)
    | (go_at_call 87; refine H2.out.mono ?_; rintro e w1 ⟨v, rfl, hown, hk⟩; have HO := Lib.hid hown; have HK := Lib.hid hk; clear hown hk))
  go_ret
  exact ⟨_, rfl, HO.out, HK.out⟩
theorem numB_len (v : Nat) : 1 ≤ (numB v).length ∧ (numB v).length ≤ 11 := num_len 10 v
theorem textB_len (b : List UInt8) : (textB b).length = (zigB b.length).length + b.length := by simp [textB]
set_option maxRecDepth 100000 in
set_option maxHeartbeats 4000000 in
theorem codeText_any (w : World) (A : Option Addr) (n c : Nat) (xs : List UInt8) (hn : n = xs.length) (hl : n ≤ 500000000) (h : Bs w A xs) (hA : A = none → c = 0) : Calls Tryz.prog 67 #[.slice A n c] w (ClonePost w (textB xs)) := by
  have H := Lib.hid h
  have Hn := Lib.hid hn
  have HA := Lib.hid hA
  have HZ := Lib.hid (codeZig_any w n (by omega))
  have hl9 : (n : Int) ≤ 500000000 := by omega
  obtain ⟨zl, hzl⟩ : ∃ zl, zl = (zigB n).length := ⟨_, rfl⟩
  have Hzl := Lib.hid hzl
  have hz11 : zl ≤ 11 := by rw [hzl]; exact (numB_len _).2
  clear h hn hA hzl
  go_enter Tryz.func67, Tryz.ntmps67
  go_wp2_with (first
    | (at_builtin; refine wpList_append_bs rfl _ _ rfl w.heap.size _ zl _ rfl (by have := HO.out; rw [← Hzl.out] at this; exact this) A n c xs rfl (H.out.kept HK.out (by simp)) Hn.out HA.out (by omega) HK.out.size ?_; intro v' w2 hown hgrow; have HO2 := Lib.hid hown; have HK2 := Lib.hid (HK.out.grown hgrow (fun k e hk => by have := own_ge HO.out k e; omega)); clear hown hgrow)
    | (go_at_call 66; refine HZ.out.mono ?_; rintro e w1 ⟨v, rfl, hown, hk⟩; have HO := Lib.hid hown; have HK := Lib.hid hk; clear hown hk))
  go_ret
  refine ⟨v', rfl, ?_, HK2.out⟩
  have := HO2.out
  rw [← List.map_append, Hzl.out, Hn.out] at this
  rw [textB_len]
  exact this
end Go.Proofs.YtcifhfdjigfeiaaGreatDoor
end

/-! Pairs that came in, as they lie; keyed.Bytes. -/
section
set_option linter.unusedVariables false
set_option linter.unusedSimpArgs false
namespace Go.Proofs.YtcifhfdjigfeiaaGreatDoor
open Go.RowKit

/-- A pair: its key, its bytes, whether it goes; where its bytes lie. -/
structure PV where
  key : ByteArray
  b : List UInt8
  gone : Bool
  A : Option Addr
  c : Nat
def PV.val (p : PV) : Value := .slice p.A p.b.length p.c
def PV.cells (p : PV) : List Value := [.string p.key, p.val, .bool p.gone]
def cellsP (ps : List PV) : List Value := ps.flatMap PV.cells
/-- What of it is compared. -/
def PV.core (p : PV) : ByteArray × List UInt8 × Bool := (p.key, p.b, p.gone)
def PV.Ok (w : World) (p : PV) : Prop := Bs w p.A p.b ∧ (p.A = none → p.c = 0)
structure PC (w : World) (ad : Addr) (p : PV) : Prop where
  c0 : w.cell? ad = some (.string p.key)
  c1 : w.cell? ⟨ad.block, ad.off + 1, none⟩ = some p.val
  c2 : w.cell? ⟨ad.block, ad.off + 2, none⟩ = some (.bool p.gone)
/-- Pairs that can be read. -/
def PsAt (w : World) (A : Option Addr) (ps : List PV) : Prop := ∀ (j : Nat) p, ps[j]? = some p → ∃ ad, A = some ad ∧ PC w (ad.add (j * 3)) p ∧ p.Ok w
theorem PsAt.kept {w w' : World} {A : Option Addr} {ps : List PV} (h : PsAt w A ps) (hk : Kept (fun _ => False) w w') : PsAt w' A ps := fun j p hp => by
  obtain ⟨ad, h1, h2, h3⟩ := h j p hp
  exact ⟨ad, h1, ⟨hk.cell h2.c0 (by simp), hk.cell h2.c1 (by simp), hk.cell h2.c2 (by simp)⟩, h3.1.kept hk (by simp), h3.2⟩
def kb (s : ByteArray) : List UInt8 := s.data.toList
def pairB (p : PV) : List UInt8 := textB (kb p.key) ++ (if p.gone then [1, 0] else 0 :: textB p.b)
/-- Pairs as bytes. -/
def bytesP (ps : List PV) : List UInt8 := zigB ps.length ++ ps.flatMap pairB
theorem flat_snoc (ps : List PV) (k : Nat) (p : PV) (h : ps[k]? = some p) : (ps.take (k + 1)).flatMap pairB = (ps.take k).flatMap pairB ++ pairB p := by
  rw [List.take_add_one, h, List.flatMap_append]; simp
theorem flat_le (ps : List PV) (k : Nat) : ((ps.take k).flatMap pairB).length ≤ (ps.flatMap pairB).length := by
  conv => rhs; rw [← List.take_append_drop k ps, List.flatMap_append, List.length_append]
  omega
/-- []byte of a string: bytes of its own. -/
theorem str_bytes (W : World) (s : ByteArray) : ∃ c W', (convert 9 51 (.string s)).run Tryz.prog W = .ok (.slice (some ⟨W.heap.size, 0, none⟩) s.size c) W' ∧ Bs W' (some ⟨W.heap.size, 0, none⟩) (kb s) ∧ Kept (fun _ => False) W W' := by
  refine ⟨_, _, run_bytes_of_string W 9 51 5 s Tryz.underlying9 Tryz.underlying51 Tryz.underlying5, ⟨fun e => (by cases e), ?_⟩, ((Kept.refl _ W).drew).alloc _⟩
  intro ad e j u hu
  injection e with e
  subst e
  rw [List.getElem?_map] at hu
  have hj : j < s.data.size := by
    rcases Nat.lt_or_ge j s.data.size with h | h
    · exact h
    · rw [List.getElem?_eq_none (by unfold kb; simpa using h)] at hu; cases hu
  have hx : (kb s)[j]? = some s.data[j] := by unfold kb; rw [Array.getElem?_toList]; simp [hj]
  rw [hx] at hu
  simp only [Option.map_some, Option.some.injEq] at hu
  subst hu
  have h9 : (W.drew.alloc (.cells (bytesRow s (grownCap W s.size 0 5)) 5 ((bytesRow s (grownCap W s.size 0 5)).size, (bytesRow s (grownCap W s.size 0 5)).size + 1))).heap[W.heap.size]? = some (.cells (bytesRow s (grownCap W s.size 0 5)) 5 ((bytesRow s (grownCap W s.size 0 5)).size, (bytesRow s (grownCap W s.size 0 5)).size + 1)) := heap_alloc_new W.drew _
  have h8 : (⟨W.heap.size, 0, none⟩ : Addr).add j = ⟨W.heap.size, j, none⟩ := by unfold Addr.add; split <;> simp_all
  rw [h8]
  simp only [World.cell?, h9]
  rw [bytesRow_at s _ j hj]
  rfl
theorem kb_size (s : ByteArray) : (kb s).length = s.size := by simp [kb]
/-- Bytes of a call's own that grow. -/
def Acc (w W : World) (v : Value) (xs : List UInt8) : Prop := W.ownsRow w.heap.size 5 1 v xs.length (xs.map bv) ∧ Kept (fun _ => False) w W
theorem Acc.nil (w : World) : Acc w w (.slice none 0 0) [] := ⟨World.ownsRow_nil _ _ _ _, Kept.refl _ _⟩
theorem Acc.stay {w W W' : World} {v : Value} {xs : List UInt8} (h : Acc w W v xs) (hk : Kept (fun _ => False) W W') : Acc w W' v xs := ⟨own_kept h.1 hk (by simp), h.2.trans' hk⟩
theorem Acc.grow {w W W' : World} {v v' : Value} {xs : List UInt8} {ys : List UInt8} (h : Acc w W v xs) (ho : W'.ownsRow w.heap.size 5 1 v' (xs.length + ys.length) (xs.map bv ++ ys.map bv)) (hg : W.grownBy W' v.ownBlock) : Acc w W' v' (xs ++ ys) :=
  ⟨by rw [List.length_append, List.map_append]; exact ho, h.2.grown hg (fun k e hk => by have := own_ge h.1 k e; omega)⟩
theorem wpList_append_acc {w W : World} {ops : Array Oper} {rest : List Oper} {o : Oper} {a : Act} {Q : Exit → Act → World → Prop} (hgd : o.guard = none) (s x : Operand)
    (ho : o.op = .call { callee := .builtin .append, args := #[s, x], argTypes := #[51, 51] })
    (v : Value) (xs : List UInt8) (hs : a.eval s = v) (hown : Acc w W v xs)
    (A : Option Addr) (m c : Nat) (ys : List UInt8) (hx : a.eval x = .slice A m c) (hB : Bs W A ys) (hm : m = ys.length) (hA : A = none → c = 0) (h63 : xs.length + ys.length ≤ 1000000000)
    (h : ∀ v' w', Acc w w' v' (xs ++ ys) → W.grownBy w' v.ownBlock → wpList Tryz.prog ops Q rest (a.put o.dst v') w') : wpList Tryz.prog ops Q (o :: rest) a W := by
  subst hm
  refine wpList_append_bs hgd s x ho w.heap.size v xs.length _ hs hown.1 A _ c ys hx hB rfl hA h63 hown.2.size ?_
  intro v' w' h1 h2
  exact h v' w' (hown.grow h1 h2) h2
theorem step_append_acc {w W : World} {ops : Array Oper} {o : Oper} {a : Act} {K : Act → World → Prop} {Q : Exit → Act → World → Prop} {E : Prop} (hgd : o.guard = none) (s x : Operand)
    (ho : o.op = .call { callee := .builtin .append, args := #[s, x], argTypes := #[51, 51] })
    (v : Value) (xs : List UInt8) (hs : a.eval s = v) (hown : Acc w W v xs)
    (A : Option Addr) (m c : Nat) (ys : List UInt8) (hx : a.eval x = .slice A m c) (hB : Bs W A ys) (hm : m = ys.length) (hA : A = none → c = 0) (h63 : xs.length + ys.length ≤ 1000000000)
    (h : ∀ v' w', Acc w w' v' (xs ++ ys) → W.grownBy w' v.ownBlock → K (a.put o.dst v') w') : if Region.wanted o (yielded ops a.tmps) = true then Oper.wp Tryz.prog o a W K Q else E := by
  subst hm
  refine step_append_bs hgd s x ho w.heap.size v xs.length _ hs hown.1 A _ c ys hx hB rfl hA h63 hown.2.size ?_
  intro v' w' h1 h2
  exact h v' w' (hown.grow h1 h2) h2
/-- Bytes handed back. -/
theorem ClonePost.acc {w w' : World} {xs : List UInt8} {e : Ending} (h : ClonePost w xs e w') : ∃ A c, e = .returned (.slice A xs.length c) ∧ Acc w w' (.slice A xs.length c) xs ∧ Bs w' A xs ∧ (A = none → c = 0) := by
  obtain ⟨v, rfl, ho, hk⟩ := h
  obtain ⟨A, c, rfl, -, hb, hA, -⟩ := Bs.of_own ho
  exact ⟨A, c, rfl, ⟨ho, hk⟩, hb, hA⟩
/-- A pair in a block of its own. -/
def BoxP (W : World) (D : Nat) (p : PV) : Prop := W.heap[D]? = some (.cells #[.string p.key, p.val, .bool p.gone] 53 (0, 0))
section
variable {W W' : World} {D : Nat} {p : PV}
theorem BoxP.c0 (h : BoxP W D p) : W.cell? ⟨D, 0, none⟩ = some (.string p.key) := by simp [World.cell?, show W.heap[D]? = _ from h]
theorem BoxP.c1 (h : BoxP W D p) : W.cell? ⟨D, 1, none⟩ = some p.val := by simp [World.cell?, show W.heap[D]? = _ from h]
theorem BoxP.c2 (h : BoxP W D p) : W.cell? ⟨D, 2, none⟩ = some (.bool p.gone) := by simp [World.cell?, show W.heap[D]? = _ from h]
theorem BoxP.fz (h : BoxP W D p) (i : Nat) : W.frozen? ⟨D, i, none⟩ = false := by simp [World.frozen?, show W.heap[D]? = _ from h]
theorem BoxP.kept {S : Nat → Prop} (h : BoxP W D p) (hk : Kept S W W') (hS : ¬ S D) : BoxP W' D p := hk.heap h hS
theorem BoxP.no {base size n : Nat} {v : Value} {ys : List Value} (h : BoxP W D p) (ho : W.ownsRow base 5 size v n ys) : v.ownBlock ≠ some D := by
  intro e
  rcases ho.2 with ⟨hv, _⟩ | ⟨g, cap, cur, hv, hb, hh, _⟩
  · rw [hv] at e; cases e
  · have hg : g = D := by rw [hv] at e; simpa [Value.ownBlock] using e
    subst hg
    rw [show W.heap[g]? = _ from h] at hh
    simp at hh
theorem BoxP.grown {w : World} {v : Value} {xs : List UInt8} (h : BoxP W D p) (ha : Acc w W v xs) (hg : W.grownBy W' v.ownBlock) : BoxP W' D p := by
  refine h.kept (S := fun k => v.ownBlock = some k) ((Kept.refl _ W).grown hg fun k e _ => e) (h.no ha.1)
end
theorem boxP_new (W : World) (p : PV) : BoxP (W.alloc (.cells #[.string p.key, .slice p.A p.b.length p.c, .bool p.gone] 53)) W.heap.size p := heap_alloc_new W _
end Go.Proofs.YtcifhfdjigfeiaaGreatDoor
end
