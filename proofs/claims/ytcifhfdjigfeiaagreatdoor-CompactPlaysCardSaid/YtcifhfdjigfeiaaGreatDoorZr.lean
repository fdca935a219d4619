import Derived.Test.YtcifhfdjigfeiaaGreatDoorZb
import Derived.Test.YtcifhfdjigfeiaaGreatDoorZf
/-! code.Reader: New, Zig, Raw, Text over bytes that were made. -/
section
set_option linter.unusedVariables false
set_option linter.unusedSimpArgs false
namespace Go.Proofs.YtcifhfdjigfeiaaGreatDoor
open Go.RowKit

theorem acc_cap {w W : World} {A : Option Addr} {n c : Nat} {xs : List UInt8} (h : Acc w W (.slice A n c) xs) : n ≤ c := by
  rcases h.1.2 with ⟨hv, hn⟩ | ⟨g, cap, cur, hv, hb, hh, hc, _⟩
  · simp only [Value.slice.injEq] at hv; omega
  · simp only [Value.slice.injEq] at hv; omega
theorem acc_form {w W : World} {v : Value} {xs : List UInt8} (h : Acc w W v xs) : ∃ A c, v = .slice A xs.length c ∧ Bs W A xs ∧ (A = none → c = 0) ∧ xs.length ≤ c ∧ ∀ ad, A = some ad → w.heap.size ≤ ad.block ∧ ad.block < W.heap.size := by
  obtain ⟨A, c, rfl, -, hb, hA, ho⟩ := Bs.of_own h.1
  exact ⟨A, c, rfl, hb, hA, acc_cap h, fun ad e => ⟨own_ge h.1 _ (ho ad e), own_lt' h.1 _ (ho ad e)⟩⟩
set_option maxRecDepth 100000 in
set_option maxHeartbeats 4000000 in
theorem codeNew_any (w : World) (A : Option Addr) (n c : Nat) (xs : List UInt8) (hn : n = xs.length) (hn9 : n ≤ 1000000000) (h : Bs w A xs) (hA : A = none → c = 0) :
    Calls Tryz.prog 72 #[.slice A n c] w fun e w' => ∃ R A' c', e = .returned (.pointer (some ⟨R, 0, none⟩)) ∧ w.heap.size ≤ R ∧ Rd w' R A' n c' xs 0 ∧ Kept (fun _ => False) w w' := by
  have H := Lib.hid h
  have Hn := Lib.hid hn
  have HA := Lib.hid hA
  have hl : ([] : List UInt8).length + xs.length ≤ 1000000000 := by rw [← hn]; simpa using hn9
  clear h hn hA
  go_enter Tryz.func72, Tryz.ntmps72
  go_wp2_with (at_builtin; refine wpList_append_acc rfl _ _ rfl _ [] rfl (Acc.nil w) A n c xs rfl H.out Hn.out HA.out hl ?_; intro v1 w1 ha hg; have HA1 := Lib.hid ha; clear ha hg; obtain ⟨A1, c1, hv1, hb1, hn1, hc1, ho1⟩ := acc_form HA1.out; subst hv1; have HB1 := Lib.hid (And.intro hb1 (And.intro hn1 (And.intro hc1 ho1))); clear hb1 hn1 hc1 ho1)
  go_ret
  obtain ⟨hb1, hn1, hc1, ho1⟩ := HB1.out
  rw [List.nil_append] at hc1 hb1
  rw [← Hn.out] at hc1 ⊢
  refine ⟨w1.heap.size, A1, c1, rfl, HA1.out.2.size, ⟨?_, hb1.kept ((Kept.refl (fun _ => False) w1).alloc _) (by simp), Hn.out, hc1, hn1, fun ad e => ?_⟩, HA1.out.2.alloc _⟩
  · exact heap_alloc_new w1 _
  · have := (ho1 ad e).2; omega
theorem unfold_any (w : World) (n : Nat) (hn : n ≤ 1000000000000) : Calls Tryz.prog 92 #[.int .u64 ((2 * n : Nat) : Int)] w fun e w' => e = .returned (.int .i64 (n : Nat)) ∧ w' = w := by
  have hn9 : (n : Int) ≤ 1000000000000 := by omega
  obtain ⟨m, hm⟩ : ∃ m, m = 2 * n := ⟨_, rfl⟩
  rw [← hm]
  have hb : bits .and .u64 (m : Int) 1 = 0 := by
    have h1 : (BitVec.ofInt 64 (m : Int)).toNat = m := by
      rw [BitVec.ofInt_natCast, BitVec.toNat_ofNat]; exact Nat.mod_eq_of_lt (by omega)
    show IntKind.u64.wrap ((BitVec.ofInt 64 (m : Int) &&& BitVec.ofInt 64 1).toNat : Int) = _
    rw [BitVec.toNat_and, h1, show (BitVec.ofInt 64 1).toNat = 1 from rfl, Nat.and_one_is_mod, IntKind.wrap_u64]
    omega
  have hx : bits .xor .i64 (n : Int) 0 = (n : Int) := by
    have h1 : (BitVec.ofInt 64 (n : Int)).toNat = n := by
      rw [BitVec.ofInt_natCast, BitVec.toNat_ofNat]; exact Nat.mod_eq_of_lt (by omega)
    show IntKind.i64.wrap ((BitVec.ofInt 64 (n : Int) ^^^ BitVec.ofInt 64 0).toNat : Int) = _
    rw [BitVec.toNat_xor, h1, show (BitVec.ofInt 64 0).toNat = 0 from rfl, Nat.xor_zero, IntKind.wrap_i64]
    omega
  have hd : (m : Int) / 2 = (n : Int) := by omega
  have hd2 : (m : Int) / 2 ^ 1 = (n : Int) := by omega
  have hm9 : (m : Int) ≤ 2000000000000 := by omega
  clear hm
  go_enter Tryz.func92, Tryz.ntmps92
  go_wp2
  go_ret
  exact ⟨rfl, rfl⟩
set_option maxHeartbeats 4000000 in
theorem rdZig_any (w : World) (R : Nat) (A : Option Addr) (n c : Nat) (xs post : List UInt8) (k V : Nat) (h : Rd w R A n c xs k) (hx : xs.drop k = zigB V ++ post) (hV : V ≤ 1000000000000) (hn : n ≤ 1000000000) :
    Calls Tryz.prog 73 #[.pointer (some ⟨R, 0, none⟩)] w fun e w' => e = .returned (.int .i64 (V : Nat)) ∧ Rd w' R A n c xs (k + (zigB V).length) ∧ Kept (fun j => j = R) w w' := by
  have H1 := Lib.hid (rdNum_any w R A n c xs post k (2 * V) h hx (by omega) hn)
  have H2 := Lib.hid fun W => unfold_any W V hV
  obtain ⟨m, hm⟩ : ∃ m, m = 2 * V := ⟨_, rfl⟩
  rw [← hm] at H1 H2
  have Hm := Lib.hid hm
  clear h hx hV hm
  go_enter Tryz.func73, Tryz.ntmps73
  go_wp2_with (first
    | (go_at_call 93; refine H1.out.mono ?_; rintro e w1 ⟨rfl, hr, hk⟩; have HR := Lib.hid hr; have HK := Lib.hid hk; clear hr hk)
    | (go_at_call 92; refine (H2.out _).mono ?_; rintro e w2 ⟨rfl, rfl⟩))
  go_ret
  have := HR.out
  rw [Hm.out] at this
  exact ⟨rfl, this, HK.out⟩
theorem slice_midB (W : World) (A : Option Addr) (l lo hi c : Nat) (h1 : lo ≤ hi) (h2 : hi ≤ c) : (Instr.slice 51 (.slice A l c) (some (.int .i64 lo)) (some (.int .i64 hi)) none).run Tryz.prog W = .ok (.slice (if c = lo then A else A.map (·.add (lo * 1))) (hi - lo) (c - lo)) W := by
  have hsz : ∀ W, (sizeOf 5).run Tryz.prog W = .ok 1 W := fun W => by kernel_rfl
  have h3 : (0 : Int) ≤ (lo : Int) ∧ (lo : Int) ≤ (hi : Int) := by omega
  have h4 : (0 : Int) ≤ (hi : Int) ∧ (hi : Int) ≤ (c : Int) := by omega
  simp only [Instr.slice, Sem.run_bind, run_underlying Tryz.underlying51, Result.andThen, Instr.sliceBounds, Instr.sliceBound, asIntOf, Sem.run_pure, if_pos h3, if_pos h4, hsz, Int.toNat_natCast]
theorem slice_fromB (W : World) (A : Option Addr) (l lo c : Nat) (h1 : lo ≤ l) (h2 : l ≤ c) : (Instr.slice 51 (.slice A l c) (some (.int .i64 lo)) none none).run Tryz.prog W = .ok (.slice (if c = lo then A else A.map (·.add (lo * 1))) (l - lo) (c - lo)) W := by
  have hsz : ∀ W, (sizeOf 5).run Tryz.prog W = .ok 1 W := fun W => by kernel_rfl
  have h3 : (0 : Int) ≤ (lo : Int) ∧ (lo : Int) ≤ (l : Int) := by omega
  have h4 : (0 : Int) ≤ (l : Int) ∧ (l : Int) ≤ (c : Int) := by omega
  simp only [Instr.slice, Sem.run_bind, run_underlying Tryz.underlying51, Result.andThen, Instr.sliceBounds, Instr.sliceBound, asIntOf, Sem.run_pure, if_pos h3, if_pos h4, hsz, Int.toNat_natCast]
theorem bs_drop {W : World} {A : Option Addr} {xs : List UInt8} (h : Bs W A xs) (k : Nat) : Bs W (A.map (·.add (k * 1))) (xs.drop k) := by
  refine ⟨fun e => ?_, fun ad e j u hu => ?_⟩
  · cases A with
    | none => rw [h.1 rfl, List.drop_nil]
    | some a => cases e
  · cases A with
    | none => cases e
    | some a =>
      injection e with e
      subst e
      rw [List.getElem?_map, List.getElem?_drop] at hu
      have h1 := h.2 a rfl (k + j) u (by rw [List.getElem?_map]; exact hu)
      have e1 : ((a.add (k * 1)).add j) = a.add (k + j) := by
        rw [Nat.mul_one, Addr.add_add]
      rw [e1]; exact h1
theorem bs_take {W : World} {A : Option Addr} {xs : List UInt8} (h : Bs W A xs) (k : Nat) : Bs W A (xs.take k) := by
  refine ⟨fun e => by rw [h.1 e, List.take_nil], fun ad e j u hu => ?_⟩
  rw [List.getElem?_map, List.getElem?_take] at hu
  split at hu
  · exact h.2 ad e j u (by rw [List.getElem?_map]; exact hu)
  · cases hu
/-- s[lo:hi], as the slice that comes of it. -/
theorem midB_form (A : Option Addr) (l lo hi c : Nat) (xs : List UInt8) (hl : l = xs.length) (h1 : lo ≤ hi) (h2 : hi ≤ l) (hc : l ≤ c) (hA : A = none → c = 0) :
    ∃ A2, (∀ W, (Instr.slice 51 (.slice A l c) (some (.int .i64 lo)) (some (.int .i64 hi)) none).run Tryz.prog W = .ok (.slice A2 (hi - lo) (c - lo)) W) ∧ (∀ W, Bs W A xs → Bs W A2 ((xs.drop lo).take (hi - lo))) ∧ (A2 = none → c - lo = 0) ∧ (∀ ad, A2 = some ad → ∃ ad', A = some ad' ∧ ad.block = ad'.block) := by
  refine ⟨if c = lo then A else A.map (·.add (lo * 1)), fun W => slice_midB W A l lo hi c h1 (by omega), fun W h => ?_, fun e => ?_, fun ad e => ?_⟩
  · by_cases h0 : c = lo
    · rw [if_pos h0, show hi - lo = 0 by omega, List.take_zero]; exact Bs.nil _ _
    · rw [if_neg h0]; exact bs_take (bs_drop h lo) _
  · by_cases h0 : c = lo
    · omega
    · rw [if_neg h0] at e
      cases A with
      | none => have := hA rfl; omega
      | some a => cases e
  · by_cases h0 : c = lo
    · rw [if_pos h0] at e; exact ⟨ad, e, rfl⟩
    · rw [if_neg h0] at e
      cases A with
      | none => cases e
      | some a => injection e with e; exact ⟨a, rfl, by rw [← e, add_block]⟩
/-- What Raw and Text hand back. -/
def RawPost (w : World) (R : Nat) (A : Option Addr) (n c : Nat) (xs : List UInt8) (k : Nat) (ys : List UInt8) (e : Ending) (w' : World) : Prop :=
  ∃ v, e = .returned v ∧ w'.ownsRow w.heap.size 5 1 v ys.length (ys.map bv) ∧ Rd w' R A n c xs k ∧ Kept (fun j => j = R) w w'
set_option maxRecDepth 100000 in
set_option maxHeartbeats 4000000 in
theorem rdRaw_any (w : World) (R : Nat) (A : Option Addr) (n c : Nat) (xs ys post : List UInt8) (k m : Nat) (h : Rd w R A n c xs k) (hx : xs.drop k = ys ++ post) (hm : m = ys.length) (hn : n ≤ 1000000000) :
    Calls Tryz.prog 95 #[.pointer (some ⟨R, 0, none⟩), .int .i64 (m : Nat)] w (RawPost w R A n c xs (k + m) ys) := by
  have HR := Lib.hid (rdReady_any w R _ k h.rb)
  rcases Nat.eq_zero_or_pos m with h0 | h0
  · subst h0
    have hy : ys = [] := List.eq_nil_of_length_eq_zero hm.symm
    subst hy
    have H := Lib.hid h
    clear h hx hm
    go_enter Tryz.func95, Tryz.ntmps95
    go_wp2_with (go_at_call 106; refine HR.out.mono ?_; rintro e w ⟨rfl, rfl⟩)
    go_ret
    exact ⟨_, rfl, World.ownsRow_nil _ _ _ _, H.out, Kept.refl _ _⟩
  · have hkm : k + m ≤ n := by
      have h1 := congrArg List.length hx
      rw [List.length_drop, List.length_append, ← h.hn] at h1
      omega
    have HL := Lib.hid (rdLeft_any w R A n c xs k h (by omega) hn)
    obtain ⟨q, hq⟩ : ∃ q, q = n - k := ⟨_, rfl⟩
    rw [← hq] at HL
    have hmq : ¬ (q : Int) < (m : Int) := by omega
    have hm0 : (0 : Int) < (m : Int) := by omega
    obtain ⟨p, hp⟩ : ∃ p, p = k + m := ⟨_, rfl⟩
    have hp1 : IntKind.i64.wrap ((k : Int) + (m : Int)) = (p : Int) := by rw [IntKind.wrap_i64]; omega
    have hp2 : IntKind.i64.wrap ((p : Int) - (m : Int)) = (k : Int) := by rw [IntKind.wrap_i64]; omega
    obtain ⟨A2, hs2, hb2, hA2, -⟩ := midB_form A n k p c xs h.hn (by omega) (by omega) h.hc h.hA
    rw [show p - k = m by omega] at hs2 hb2
    obtain ⟨c2, hc2⟩ : ∃ c2, c2 = c - k := ⟨_, rfl⟩
    rw [← hc2] at hs2 hA2
    have H := Lib.hid h
    have Hb2 : Hid (∀ W, Bs W A xs → Bs W A2 ys) := Lib.hid fun W hW => by
      have := hb2 W hW
      rw [hx, hm, List.take_left] at this
      exact this
    have HA2 := Lib.hid hA2
    have Hm := Lib.hid hm
    have hl : ([] : List UInt8).length + ys.length ≤ 1000000000 := by simp; omega
    have Hp := Lib.hid hp
    clear h hx hq hp hb2 hA2 hc2 hm h0 hkm
    go_enter Tryz.func95, Tryz.ntmps95
    go_upto_region 6 with (first
      | (go_at_call 106; refine HR.out.mono ?_; rintro e w ⟨rfl, rfl⟩)
      | (go_at_call 96; refine HL.out.mono ?_; rintro e w1 ⟨rfl, mm, hmm⟩; have HK : Hid (Kept (fun _ => False) w w1) := Lib.hid (by rw [hmm]; exact (Kept.refl _ _).drewN _); have H1 := Lib.hid (H.out.stay HK.out); clear hmm))
    have c1 := H1.out.rb.c1
    have f1 := H1.out.rb.fz 1
    go_upto_region 7 with fail
    obtain ⟨W2, hW2⟩ : ∃ W2, W2 = w1.setCell ⟨R, 1, none⟩ (.int .i64 (p : Nat)) := ⟨_, rfl⟩
    have H2 : Hid (Rd W2 R A n c xs p) := Lib.hid (by rw [hW2]; exact H1.out.go p)
    have HK2 : Hid (Kept (fun j => j = R) w W2) := Lib.hid (by rw [hW2]; exact (HK.out.mono fun _ _ h => h.elim).trans' (kF w1 R 1 _))
    rw [← hW2]
    have e0 := H2.out.rb.c0
    have e1 := H2.out.rb.c1
    have HB2 := Lib.hid (Hb2.out W2.drew (H2.out.bs.kept (Kept.refl (fun _ => False) W2).drew (by simp)))
    clear hW2 c1 f1
    go_region_law (refine step_append_acc rfl _ _ rfl _ [] rfl (Acc.nil _) A2 m c2 ys rfl HB2.out Hm.out HA2.out hl ?_; intro v3 w3 ha hg; have HA3 := Lib.hid ha; obtain ⟨A3, c3, rfl⟩ := own_slice ha.1; clear ha hg)
    all_goals
      go_wp2
      go_ret
      have h1 := HA3.out
      rw [List.nil_append] at h1
      have hs : w.heap.size ≤ W2.drew.heap.size := HK2.out.size
      refine ⟨_, rfl, own_low h1.1 hs, ?_, ?_⟩
      · rw [← Hp.out]; exact (H2.out.stay (Kept.refl (fun _ => False) W2).drew).stay h1.2
      · exact HK2.out.drew.trans' (h1.2.mono fun _ _ h => h.elim)
set_option maxRecDepth 100000 in
set_option maxHeartbeats 4000000 in
theorem rdText_any (w : World) (R : Nat) (A : Option Addr) (n c : Nat) (xs ys post : List UInt8) (k most : Nat) (h : Rd w R A n c xs k) (hx : xs.drop k = textB ys ++ post) (hm : ys.length ≤ most) (hm9 : most ≤ 1000000000) (hn : n ≤ 1000000000) :
    Calls Tryz.prog 94 #[.pointer (some ⟨R, 0, none⟩), .int .i64 (most : Nat)] w (RawPost w R A n c xs (k + (textB ys).length) ys) := by
  have HR := Lib.hid (rdReady_any w R _ k h.rb)
  have hx1 : xs.drop k = zigB ys.length ++ (ys ++ post) := by rw [hx, textB, List.append_assoc]
  have HZ := Lib.hid (rdZig_any w R A n c xs (ys ++ post) k ys.length h hx1 (by omega) hn)
  obtain ⟨m, hmm⟩ : ∃ m, m = ys.length := ⟨_, rfl⟩
  rw [← hmm] at HZ
  have HW : Hid (∀ W, Rd W R A n c xs (k + (zigB m).length) → Calls Tryz.prog 95 #[.pointer (some ⟨R, 0, none⟩), .int .i64 (m : Nat)] W (RawPost W R A n c xs (k + (zigB m).length + m) ys)) := Lib.hid fun W hW => by
    refine rdRaw_any W R A n c xs ys post _ m hW ?_ hmm hn
    have h1 := congrArg (List.drop (zigB ys.length).length) hx1
    rw [List.drop_drop, List.drop_left] at h1
    rw [hmm]; exact h1
  have c1 := h.rb.c1
  have hmn : ¬ (most : Int) < (m : Int) := by omega
  have hm0 : ¬ (m : Int) < 0 := by omega
  have hmx : (max (most : Int) 0) = (most : Int) := by omega
  have hmost0 : (0 : Int) ≤ (most : Int) := by omega
  have Hmm := Lib.hid hmm
  clear h hx hx1 hm hmm
  go_enter Tryz.func94, Tryz.ntmps94
  go_upto_region 5 with (first
    | (go_at_call 106; refine HR.out.mono ?_; rintro e w ⟨rfl, rfl⟩)
    | (go_at_call 73; refine HZ.out.mono ?_; rintro e w1 ⟨rfl, h1, hk1⟩; have H1 := Lib.hid h1; have HK1 := Lib.hid hk1; clear h1 hk1))
  have d2 := H1.out.rb.c2
  clear c1
  go_upto_region 13 with fail
  go_upto_region 14 with (go_at_call 95; refine (HW.out w1 H1.out).mono ?_; rintro e w2 ⟨v2, rfl, ho2, h2, hk2⟩; obtain ⟨A2, c2, rfl⟩ := own_slice ho2; have HO2 := Lib.hid ho2; have H2 := Lib.hid h2; have HK2 := Lib.hid hk2; have e2 := h2.rb.c2; clear ho2 h2 hk2)
  go_wp2
  go_ret
  have hl : k + (textB ys).length = k + (zigB m).length + m := by rw [textB_len, ← Hmm.out]; omega
  rw [RawPost, hl]
  exact ⟨_, rfl, own_low HO2.out HK1.out.size, H2.out, HK1.out.trans' HK2.out⟩
end Go.Proofs.YtcifhfdjigfeiaaGreatDoor
end

/-! keyed.pair, keyed.Take over bytes that were made. -/
section
set_option linter.unusedVariables false
set_option linter.unusedSimpArgs false
namespace Go.Proofs.YtcifhfdjigfeiaaGreatDoor
open Go.RowKit

/-- The bytes that a pair has when it is read again. -/
def nb (p : PV) : List UInt8 := if p.gone then [] else p.b
def gB (p : PV) : UInt8 := if p.gone then 1 else 0
theorem pairB_eq (p : PV) : pairB p = textB (kb p.key) ++ gB p :: textB (nb p) := by
  unfold pairB gB nb
  split
  · rfl
  · rfl
theorem str_of (W : World) (A : Option Addr) (n c : Nat) (xs : List UInt8) (hn : n = xs.length) (h : Bs W A xs) : (convert 51 9 (.slice A n c)).run Tryz.prog W = .ok (.string ⟨xs.toArray⟩) W := by
  subst hn
  cases A with
  | none =>
    have h0 := h.1 rfl
    subst h0
    exact (run_convert_bytes_string W 51 9 5 none 0 c Tryz.underlying51 Tryz.underlying5 Tryz.underlying9).trans rfl
  | some ad =>
    exact run_convert_bytes_back W 51 9 5 ad c xs Tryz.underlying51 Tryz.underlying5 Tryz.underlying9 fun j hj => bs_at h (List.getElem?_eq_getElem hj)
theorem kb_back (s : ByteArray) : (⟨(kb s).toArray⟩ : ByteArray) = s := by cases s; simp [kb]
theorem build_key (W : World) (s : ByteArray) : (Instr.build 53 #[(0, .string s)]).run Tryz.prog W = .ok (.agg #[.string s, .slice none 0 0, .bool false]) W := by kernel_rfl
theorem own_one {W : World} {base : Nat} {v : Value} {g : UInt8} (h : W.ownsRow base 5 1 v 1 [bv g]) : ∃ G c, v = .slice (some ⟨G, 0, none⟩) 1 c ∧ base ≤ G ∧ W.cell? ⟨G, 0, none⟩ = some (.int .u8 (g.toNat : Nat)) := by
  obtain ⟨A, c, rfl, -, hb, -, -⟩ := Bs.of_own (xs := [g]) h
  rcases h.2 with ⟨hv, hn⟩ | ⟨G, cap, cur, hv, hG, -⟩
  · omega
  · simp only [Value.slice.injEq] at hv
    obtain ⟨rfl, -, -⟩ := hv
    exact ⟨G, c, rfl, hG, by simpa [Addr.add] using bs_at (k := 0) hb rfl⟩
theorem Rd.low {w : World} {R k n c : Nat} {A : Option Addr} {xs : List UInt8} (h : Rd w R A n c xs k) : ∀ ad, A = some ad → xs = [] ∨ ad.block < w.heap.size := by
  intro ad e
  cases xs with
  | nil => exact .inl rfl
  | cons x r =>
    subst e
    have := bs_at (k := 0) h.bs rfl
    exact .inr (by have := World.block_lt_of_cell? w _ this; rwa [add_block] at this)
theorem Rd.lt {w : World} {R k n c : Nat} {A : Option Addr} {xs : List UInt8} (h : Rd w R A n c xs k) : R < w.heap.size := (Array.getElem?_eq_some_iff.1 (show w.heap[R]? = _ from h.rb)).1
/-- What is turned in blocks that came later leaves a reader. -/
theorem Rd.fresh {S : Nat → Prop} {w0 w w' : World} {R k0 k n c : Nat} {A : Option Addr} {xs : List UInt8} (h0 : Rd w0 R A n c xs k0) (h : Rd w R A n c xs k) (hk : Kept S w w') (hD : ∀ j, S j → w0.heap.size ≤ j) : Rd w' R A n c xs k :=
  ⟨h.rb.kept hk (fun e => by have := hD _ e; have := h0.lt; omega), h.bs.kept' hk (fun ad e => (h0.low ad e).imp id fun hl e2 => by have := hD _ e2; omega), h.hn, h.hc, h.hA, h.nR⟩
/-- A structure in a cell, and a number. -/
theorem results_row_tmp {P : Program} {fn : Func} {p u : Tmp} {ty : TypeId} (h : fn.results = #[.cell p ty, .tmp u]) (tmps : Array Value) (w : World) (g : Nat) (t : TypeId) (cs : Array Value) (fr : Nat × Nat) (d : TypeDesc)
    (hp : tmps.getD p undef = .pointer (some ⟨g, 0, none⟩)) (hg : w.heap[g]? = some (.cells cs t fr))
    (hu : P.underlying ty = some d) (hd : (match d with | .struct _ | .array _ _ => true | _ => false) = true) (hi : (P.info? ty).map (·.size) = some cs.size) :
    (results fn tmps).run P w = .ok (.tuple #[.agg cs, tmps.getD u undef]) w := by
  have hp' : tmps[p]?.getD undef = .pointer (some ⟨g, 0, none⟩) := by simpa using hp
  simp [results, h, hp', asAddr, Go.run_loadVar_row w g t ty cs fr d hg hu hd hi]
theorem BoxP.put1 {W : World} {D : Nat} {p : PV} (h : BoxP W D p) (A' : Option Addr) (xs : List UInt8) (c' : Nat) : BoxP (W.setCell ⟨D, 1, none⟩ (.slice A' xs.length c')) D ⟨p.key, xs, p.gone, A', c'⟩ := by
  unfold BoxP World.setCell; simp only [Array.getElem?_modify, if_true, show W.heap[D]? = _ from h]; rfl
theorem BoxP.put2 {W : World} {D : Nat} {p : PV} (h : BoxP W D p) (g : Bool) : BoxP (W.setCell ⟨D, 2, none⟩ (.bool g)) D ⟨p.key, p.b, g, p.A, p.c⟩ := by
  unfold BoxP World.setCell; simp only [Array.getElem?_modify, if_true, show W.heap[D]? = _ from h]; rfl
theorem BoxP.put0 {W : World} {D : Nat} {p : PV} (h : BoxP W D p) (s : ByteArray) : BoxP (W.setCell ⟨D, 0, none⟩ (.string s)) D ⟨s, p.b, p.gone, p.A, p.c⟩ := by
  unfold BoxP World.setCell; simp only [Array.getElem?_modify, if_true, show W.heap[D]? = _ from h]; rfl
theorem infoP3 : (Tryz.prog.info? 53).map (·.size) = some 3 := by kernel_rfl
set_option maxRecDepth 100000 in
set_option maxHeartbeats 8000000 in
theorem kPair_any (w : World) (R : Nat) (A : Option Addr) (n c : Nat) (xs post : List UInt8) (k : Nat) (p : PV) (h : Rd w R A n c xs k) (hx : xs.drop k = pairB p ++ post) (hk : p.key.size ≤ 32768) (hb : p.b.length ≤ 32768) (hn : n ≤ 1000000000) :
    Calls Tryz.prog 75 #[.pointer (some ⟨R, 0, none⟩)] w fun e w' => ∃ V, e = .returned (.tuple #[.agg #[.string p.key, V, .bool p.gone], .int .i64 0]) ∧ w'.ownsRow w.heap.size 5 1 V (nb p).length ((nb p).map bv) ∧ Rd w' R A n c xs (k + (pairB p).length) ∧ Kept (fun j => j = R) w w' := by
  rw [pairB_eq] at hx ⊢
  obtain ⟨k1, hk1⟩ : ∃ k1, k1 = k + (textB (kb p.key)).length := ⟨_, rfl⟩
  have hx1 : xs.drop k = textB (kb p.key) ++ (gB p :: textB (nb p) ++ post) := by rw [hx, List.append_assoc]
  have hx2 : xs.drop k1 = [gB p] ++ (textB (nb p) ++ post) := by
    have := congrArg (List.drop (textB (kb p.key)).length) hx1
    rw [List.drop_drop, List.drop_left] at this
    rw [hk1]; exact this
  have hx3 : xs.drop (k1 + 1) = textB (nb p) ++ post := by
    have := congrArg (List.drop 1) hx2
    rw [List.drop_drop] at this
    exact this
  have hnb : (nb p).length ≤ 32768 := by
    unfold nb
    split
    · simp
    · exact hb
  have HT1 : Hid (∀ W, Rd W R A n c xs k → Calls Tryz.prog 94 #[.pointer (some ⟨R, 0, none⟩), .int .i64 32768] W (RawPost W R A n c xs k1 (kb p.key))) := Lib.hid fun W hW => by
    rw [hk1]; exact rdText_any W R A n c xs (kb p.key) _ k 32768 hW hx1 (by rw [kb_size]; exact hk) (by omega) hn
  have HRw : Hid (∀ W, Rd W R A n c xs k1 → Calls Tryz.prog 95 #[.pointer (some ⟨R, 0, none⟩), .int .i64 1] W (RawPost W R A n c xs (k1 + 1) [gB p])) := Lib.hid fun W hW => rdRaw_any W R A n c xs [gB p] _ k1 1 hW hx2 rfl hn
  have HT2 : Hid (∀ W, Rd W R A n c xs (k1 + 1) → Calls Tryz.prog 94 #[.pointer (some ⟨R, 0, none⟩), .int .i64 32768] W (RawPost W R A n c xs (k1 + 1 + (textB (nb p)).length) (nb p))) := Lib.hid fun W hW => rdText_any W R A n c xs (nb p) post (k1 + 1) 32768 hW hx3 hnb (by omega) hn
  have HKe : Hid (k + (textB (kb p.key) ++ gB p :: textB (nb p)).length = k1 + 1 + (textB (nb p)).length) := Lib.hid (by rw [hk1, List.length_append, List.length_cons]; omega)
  obtain ⟨K, hK⟩ : ∃ K, K = k + (textB (kb p.key) ++ gB p :: textB (nb p)).length := ⟨_, rfl⟩
  rw [← hK] at HKe ⊢
  clear hK
  have H := Lib.hid h
  have hsk : p.key.size ≤ 140737488355328 := by omega
  clear h hx hx1 hx2 hx3 hk1 hk hb
  have hbk := fun W => build_key W p.key
  go_enter Tryz.func75, Tryz.ntmps75
  have HD : Hid (R < w.heap.size) := Lib.hid (Array.getElem?_eq_some_iff.1 (show w.heap[R]? = _ from H.out.rb)).1
  obtain ⟨D, hD⟩ : ∃ D, D = w.heap.size := ⟨_, rfl⟩
  obtain ⟨w0, hw0⟩ : ∃ w0, w0 = w.alloc (.cells #[.string ⟨#[]⟩, .slice none 0 0, .bool false] 53) := ⟨_, rfl⟩
  have H0 : Hid (Rd w0 R A n c xs k) := Lib.hid (by rw [hw0]; exact H.out.stay ((Kept.refl _ w).alloc _))
  have HK0 : Hid (Kept (fun j => j = R) w w0) := Lib.hid (by rw [hw0]; exact (Kept.refl _ w).alloc _)
  have Hd0 : Hid (BoxP w0 D ⟨⟨#[]⟩, [], false, none, 0⟩) := Lib.hid (by rw [hw0, hD]; exact heap_alloc_new w _)
  have HDw := Lib.hid hD
  have HDs : Hid (D < w0.heap.size) := Lib.hid (by rw [hw0, hD]; simp)
  go_wp2_with fail
  rw [← hw0, ← hD]
  clear hw0 hD
  go_wp2_with (go_at_call 94; refine (HT1.out w0 H0.out).mono ?_; rintro e w1 ⟨v1, rfl, ho1, h1, hk1⟩; obtain ⟨A1, c1, rfl⟩ := own_slice ho1; have HO1 := Lib.hid ho1; have H1 := Lib.hid h1; have HK1 := Lib.hid (HK0.out.trans' hk1); have Hd1 := Lib.hid (Hd0.out.kept hk1 (by have := HD.out; have := HDw.out; omega)); have HS1 := Lib.hid hk1.size; have hcv : ∀ W, Kept (fun _ => False) w1 W → (convert 51 9 (.slice A1 (kb p.key).length c1)).run Tryz.prog W = .ok (.string p.key) W := (fun W hW => (by obtain ⟨A9, c9, h8, -, h9, -, -⟩ := Bs.of_own ho1; simp only [Value.slice.injEq] at h8; obtain ⟨rfl, -, rfl⟩ := h8; have := str_of W A1 _ c1 (kb p.key) rfl (h9.kept hW (by simp)); rwa [kb_back] at this)); have hcv := hcv w1 (Kept.refl _ _); clear ho1 h1 hk1)
  obtain ⟨D2, hD2⟩ : ∃ D2, D2 = w1.heap.size := ⟨_, rfl⟩
  obtain ⟨w2, hw2⟩ : ∃ w2, w2 = w1.alloc (.cells #[.string p.key, .slice none 0 0, .bool false] 53) := ⟨_, rfl⟩
  have HA2 : Hid (Kept (fun _ => False) w1 w2) := Lib.hid (by rw [hw2]; exact (Kept.refl _ w1).alloc _)
  have H2 := Lib.hid (H1.out.stay HA2.out)
  have HK2 := Lib.hid (HK1.out.trans' (HA2.out.mono fun _ _ h => h.elim))
  have Hd2 := Lib.hid (Hd1.out.kept HA2.out (by simp))
  have Hb2 : Hid (BoxP w2 D2 ⟨p.key, [], false, none, 0⟩) := Lib.hid (by rw [hw2, hD2]; exact heap_alloc_new w1 _)
  have HDD : Hid (R < D ∧ D < D2 ∧ D2 < w2.heap.size) := Lib.hid (by
    have h1 := HD.out; have h2 := HDw.out; have h3 := HDs.out; have h4 := HS1.out
    have h5 : w2.heap.size = w1.heap.size + 1 := by rw [hw2]; simp
    omega)
  rw [← hw2, ← hD2]
  clear hw2 hD2 hcv
  obtain ⟨g, hg⟩ : ∃ g, g = p.gone := ⟨_, rfl⟩
  have Hg := Lib.hid hg
  clear hg
  cases g
  · have HGi : Hid (((gB p).toNat : Int) = 0) := Lib.hid (by simp [gB, ← Hg.out])
    go_upto_region 5 with (first
      | (go_at_call 95; refine (HRw.out w2 H2.out).mono ?_; rintro e w3 ⟨v3, rfl, ho3, h3, hk3⟩; obtain ⟨G, c3, rfl, hG, dx⟩ := own_one ho3; rw [HGi.out] at dx; have HG := Lib.hid hG; have H3 := Lib.hid h3; have HK3 := Lib.hid hk3; clear ho3 h3 hk3 hG)
      | (go_at_call 74; refine (rdErr_any w3 R _ _ H3.out.rb).mono ?_; rintro e w3 ⟨rfl, rfl⟩))
    have Hd3 := Lib.hid (Hd2.out.kept HK3.out (by have := HDD.out; omega))
    have Hb3 := Lib.hid (Hb2.out.kept HK3.out (by have := HDD.out; omega))
    have q1f := fun W hW => (show ∀ W, Kept (fun j => j = R) w3 W → W.frozen? ⟨D2, 1, none⟩ = false from fun W hW => (Hb3.out.kept hW (by have := HDD.out; omega)).fz 1) W hW
    go_upto_region 6 with (go_at_call 94; refine (HT2.out w3 H3.out).mono ?_; rintro e w4 ⟨v4, rfl, ho4, h4, hk4⟩; obtain ⟨A4, c4, rfl⟩ := own_slice ho4; have HO4 := Lib.hid ho4; have H4 := Lib.hid h4; have HK4 := Lib.hid hk4; have q1 := (Hb3.out.kept hk4 (by have := HDD.out; omega)).c1; have q1f := q1f w4 hk4; unfold PV.val at q1; clear ho4 h4 hk4)
    clear q1 q1f
    obtain ⟨W5, hW5⟩ : ∃ W5, W5 = w4.setCell ⟨D2, 1, none⟩ (.slice A4 (nb p).length c4) := ⟨_, rfl⟩
    have hk5 : Kept (fun j => j = D2) w4 W5 := by rw [hW5]; exact kF w4 D2 1 _
    have H5 : Hid (Rd W5 R A n c xs (k1 + 1 + (textB (nb p)).length)) := Lib.hid (H.out.fresh H4.out hk5 fun j e => by have := HDD.out; have := HDw.out; omega)
    have Hd5 := Lib.hid ((Hd3.out.kept HK4.out (by have := HDD.out; omega)).kept hk5 (by have := HDD.out; omega))
    have Hb5 : Hid (BoxP W5 D2 ⟨p.key, nb p, false, A4, c4⟩) := Lib.hid (by rw [hW5]; exact (Hb3.out.kept HK4.out (by have := HDD.out; omega)).put1 A4 (nb p) c4)
    have hGD : ¬ G = D2 ∧ ¬ G = R := by have := HDD.out; have := HG.out; omega
    have dx5 := hk5.cell (HK4.out.cell dx hGD.2) hGD.1
    have HK5 : Hid (Kept (fun j => j = R ∨ j = D2) w2 W5) := Lib.hid (((HK3.out.trans' HK4.out).mono fun _ _ e => .inl e).trans' (hk5.mono fun _ _ e => .inr e))
    have HO5 : Hid (W5.ownsRow w3.heap.size 5 1 (.slice A4 (nb p).length c4) (nb p).length ((nb p).map bv)) := Lib.hid (own_kept HO4.out hk5 fun k e e2 => by have := own_ge HO4.out k e; have := HDD.out; have := HK3.out.size; omega)
    rw [← hW5]
    clear hW5 hk5 dx
    go_upto_region 9 with (go_at_call 74; refine (rdErr_any W5 R _ _ H5.out.rb).mono ?_; rintro e W5 ⟨rfl, rfl⟩)
    have q2f := Hb5.out.fz 2
    have q2 := Hb5.out.c2
    go_upto_region 10 with fail
    obtain ⟨W6, hW6⟩ : ∃ W6, W6 = W5.setCell ⟨D2, 2, none⟩ (.bool false) := ⟨_, rfl⟩
    have hk6 : Kept (fun j => j = D2) W5 W6 := by rw [hW6]; exact kF W5 D2 2 _
    have H6 : Hid (Rd W6 R A n c xs (k1 + 1 + (textB (nb p)).length)) := Lib.hid (H.out.fresh H5.out hk6 fun j e => by have := HDD.out; have := HDw.out; omega)
    have Hd6 := Lib.hid (Hd5.out.kept hk6 (by have := HDD.out; omega))
    have Hb6 : Hid (BoxP W6 D2 ⟨p.key, nb p, false, A4, c4⟩) := Lib.hid (by rw [hW6]; exact Hb5.out.put2 false)
    have HK6 : Hid (Kept (fun j => j = R ∨ j = D2) w2 W6) := Lib.hid (HK5.out.trans' (hk6.mono fun _ _ e => .inr e))
    have HO6 : Hid (W6.ownsRow w3.heap.size 5 1 (.slice A4 (nb p).length c4) (nb p).length ((nb p).map bv)) := Lib.hid (own_kept HO5.out hk6 fun k e e2 => by have := own_ge HO5.out k e; have := HDD.out; have := HK3.out.size; omega)
    rw [← hW6]
    clear hW6 hk6 q2 q2f dx5
    have r0 := Hb6.out.c0
    have r1 := Hb6.out.c1
    have r2 := Hb6.out.c2
    unfold PV.val at r1
    have s0 := Hd6.out.c0
    have s1 := Hd6.out.c1
    have s2 := Hd6.out.c2
    have sf := Hd6.out.fz
    go_wp2
    have hW9 : BoxP (((W6.setCell ⟨D, 0, none⟩ (.string p.key)).setCell ⟨D, 1, none⟩ (.slice A4 (nb p).length c4)).setCell ⟨D, 2, none⟩ (.bool false)) D ⟨p.key, nb p, false, A4, c4⟩ := ((Hd6.out.put0 p.key).put1 A4 (nb p) c4).put2 false
    have hk9 : Kept (fun j => j = D) W6 (((W6.setCell ⟨D, 0, none⟩ (.string p.key)).setCell ⟨D, 1, none⟩ (.slice A4 (nb p).length c4)).setCell ⟨D, 2, none⟩ (.bool false)) := ((kF W6 D 0 _).trans' (kF _ D 1 _)).trans' (kF _ D 2 _)
    refine bodyPost_ret (v := .tuple #[.agg #[.string p.key, .slice A4 (nb p).length c4, .bool false], .int .i64 0]) (results_row_tmp (u := 3) rfl _ _ D 53 _ (0, 0) _ rfl hW9 Tryz.underlying53 rfl infoP3) rfl ⟨_, by rw [← Hg.out], own_low (own_kept HO6.out hk9 fun k e e2 => by have := own_ge HO6.out k e; have := HDD.out; have := HK3.out.size; omega) (Nat.le_trans HK2.out.size HK3.out.size), ?_, ?_⟩
    · rw [HKe.out]; exact H.out.fresh H6.out hk9 fun j e => by have := HDw.out; omega
    · exact (HK2.out.trans HK6.out fun i hi e => by have := HDD.out; have := HDw.out; omega).trans hk9 fun i hi e => by have := HDw.out; omega
  · have HGi : Hid (((gB p).toNat : Int) = 1) := Lib.hid (by simp [gB, ← Hg.out])
    have hz : ¬ (0 : Int) < ((nb p).length : Int) := by simp [nb, ← Hg.out]
    go_upto_region 5 with (first
      | (go_at_call 95; refine (HRw.out w2 H2.out).mono ?_; rintro e w3 ⟨v3, rfl, ho3, h3, hk3⟩; obtain ⟨G, c3, rfl, hG, dx⟩ := own_one ho3; rw [HGi.out] at dx; have HG := Lib.hid hG; have H3 := Lib.hid h3; have HK3 := Lib.hid hk3; clear ho3 h3 hk3 hG)
      | (go_at_call 74; refine (rdErr_any w3 R _ _ H3.out.rb).mono ?_; rintro e w3 ⟨rfl, rfl⟩))
    have Hd3 := Lib.hid (Hd2.out.kept HK3.out (by have := HDD.out; omega))
    have Hb3 := Lib.hid (Hb2.out.kept HK3.out (by have := HDD.out; omega))
    have q1f := fun W hW => (show ∀ W, Kept (fun j => j = R) w3 W → W.frozen? ⟨D2, 1, none⟩ = false from fun W hW => (Hb3.out.kept hW (by have := HDD.out; omega)).fz 1) W hW
    go_upto_region 6 with (go_at_call 94; refine (HT2.out w3 H3.out).mono ?_; rintro e w4 ⟨v4, rfl, ho4, h4, hk4⟩; obtain ⟨A4, c4, rfl⟩ := own_slice ho4; have HO4 := Lib.hid ho4; have H4 := Lib.hid h4; have HK4 := Lib.hid hk4; have q1 := (Hb3.out.kept hk4 (by have := HDD.out; omega)).c1; have q1f := q1f w4 hk4; unfold PV.val at q1; clear ho4 h4 hk4)
    clear q1 q1f
    obtain ⟨W5, hW5⟩ : ∃ W5, W5 = w4.setCell ⟨D2, 1, none⟩ (.slice A4 (nb p).length c4) := ⟨_, rfl⟩
    have hk5 : Kept (fun j => j = D2) w4 W5 := by rw [hW5]; exact kF w4 D2 1 _
    have H5 : Hid (Rd W5 R A n c xs (k1 + 1 + (textB (nb p)).length)) := Lib.hid (H.out.fresh H4.out hk5 fun j e => by have := HDD.out; have := HDw.out; omega)
    have Hd5 := Lib.hid ((Hd3.out.kept HK4.out (by have := HDD.out; omega)).kept hk5 (by have := HDD.out; omega))
    have Hb5 : Hid (BoxP W5 D2 ⟨p.key, nb p, false, A4, c4⟩) := Lib.hid (by rw [hW5]; exact (Hb3.out.kept HK4.out (by have := HDD.out; omega)).put1 A4 (nb p) c4)
    have hGD : ¬ G = D2 ∧ ¬ G = R := by have := HDD.out; have := HG.out; omega
    have dx5 := hk5.cell (HK4.out.cell dx hGD.2) hGD.1
    have HK5 : Hid (Kept (fun j => j = R ∨ j = D2) w2 W5) := Lib.hid (((HK3.out.trans' HK4.out).mono fun _ _ e => .inl e).trans' (hk5.mono fun _ _ e => .inr e))
    have HO5 : Hid (W5.ownsRow w3.heap.size 5 1 (.slice A4 (nb p).length c4) (nb p).length ((nb p).map bv)) := Lib.hid (own_kept HO4.out hk5 fun k e e2 => by have := own_ge HO4.out k e; have := HDD.out; have := HK3.out.size; omega)
    rw [← hW5]
    clear hW5 hk5 dx
    go_upto_region 9 with (go_at_call 74; refine (rdErr_any W5 R _ _ H5.out.rb).mono ?_; rintro e W5 ⟨rfl, rfl⟩)
    have q2f := Hb5.out.fz 2
    have q2 := Hb5.out.c2
    go_upto_region 10 with fail
    obtain ⟨W6, hW6⟩ : ∃ W6, W6 = W5.setCell ⟨D2, 2, none⟩ (.bool true) := ⟨_, rfl⟩
    have hk6 : Kept (fun j => j = D2) W5 W6 := by rw [hW6]; exact kF W5 D2 2 _
    have H6 : Hid (Rd W6 R A n c xs (k1 + 1 + (textB (nb p)).length)) := Lib.hid (H.out.fresh H5.out hk6 fun j e => by have := HDD.out; have := HDw.out; omega)
    have Hd6 := Lib.hid (Hd5.out.kept hk6 (by have := HDD.out; omega))
    have Hb6 : Hid (BoxP W6 D2 ⟨p.key, nb p, true, A4, c4⟩) := Lib.hid (by rw [hW6]; exact Hb5.out.put2 true)
    have HK6 : Hid (Kept (fun j => j = R ∨ j = D2) w2 W6) := Lib.hid (HK5.out.trans' (hk6.mono fun _ _ e => .inr e))
    have HO6 : Hid (W6.ownsRow w3.heap.size 5 1 (.slice A4 (nb p).length c4) (nb p).length ((nb p).map bv)) := Lib.hid (own_kept HO5.out hk6 fun k e e2 => by have := own_ge HO5.out k e; have := HDD.out; have := HK3.out.size; omega)
    rw [← hW6]
    clear hW6 hk6 q2 q2f dx5
    have r0 := Hb6.out.c0
    have r1 := Hb6.out.c1
    have r2 := Hb6.out.c2
    unfold PV.val at r1
    have s0 := Hd6.out.c0
    have s1 := Hd6.out.c1
    have s2 := Hd6.out.c2
    have sf := Hd6.out.fz
    go_wp2
    have hW9 : BoxP (((W6.setCell ⟨D, 0, none⟩ (.string p.key)).setCell ⟨D, 1, none⟩ (.slice A4 (nb p).length c4)).setCell ⟨D, 2, none⟩ (.bool true)) D ⟨p.key, nb p, true, A4, c4⟩ := ((Hd6.out.put0 p.key).put1 A4 (nb p) c4).put2 true
    have hk9 : Kept (fun j => j = D) W6 (((W6.setCell ⟨D, 0, none⟩ (.string p.key)).setCell ⟨D, 1, none⟩ (.slice A4 (nb p).length c4)).setCell ⟨D, 2, none⟩ (.bool true)) := ((kF W6 D 0 _).trans' (kF _ D 1 _)).trans' (kF _ D 2 _)
    refine bodyPost_ret (v := .tuple #[.agg #[.string p.key, .slice A4 (nb p).length c4, .bool true], .int .i64 0]) (results_row_tmp (u := 3) rfl _ _ D 53 _ (0, 0) _ rfl hW9 Tryz.underlying53 rfl infoP3) rfl ⟨_, by rw [← Hg.out], own_low (own_kept HO6.out hk9 fun k e e2 => by have := own_ge HO6.out k e; have := HDD.out; have := HK3.out.size; omega) (Nat.le_trans HK2.out.size HK3.out.size), ?_, ?_⟩
    · rw [HKe.out]; exact H.out.fresh H6.out hk9 fun j e => by have := HDw.out; omega
    · exact (HK2.out.trans HK6.out fun i hi e => by have := HDD.out; have := HDw.out; omega).trans hk9 fun i hi e => by have := HDw.out; omega
end Go.Proofs.YtcifhfdjigfeiaaGreatDoor
end

/-! keyed.Take over bytes that were made. -/
section
set_option linter.unusedVariables false
set_option linter.unusedSimpArgs false
namespace Go.Proofs.YtcifhfdjigfeiaaGreatDoor
open Go.RowKit

/-- What of a pair is read again. -/
def normP (p : PV) : ByteArray × List UInt8 × Bool := (p.key, nb p, p.gone)
theorem RdB.noRow {w : World} {R k : Nat} {v : Value} {base e s n : Nat} {u : Value} {xs : List Value} (h : RdB w R v k) (ho : w.ownsRow base e s u n xs) (he : e ≠ 138) : u.ownBlock ≠ some R := by
  intro e2
  rcases ho.2 with ⟨hv, _⟩ | ⟨g, _, _, hv, _, hh, _⟩
  · rw [hv] at e2; cases e2
  · have hg : g = R := by rw [hv] at e2; simpa [Value.ownBlock] using e2
    subst hg
    rw [show w.heap[g]? = _ from h] at hh
    simp at hh
    exact he hh.2.symm
theorem OwnP.other {w W W' : World} {R k n c : Nat} {A : Option Addr} {xs : List UInt8} {v : Value} {qs : List PV} (h : OwnP w W v qs) (hr : Rd W R A n c xs k) (hw : w.heap.size ≤ R) (hk : Kept (fun j => j = R) W W') : OwnP w W' v qs :=
  ⟨own_kept h.row hk fun j e e2 => hr.rb.noRow h.row (by decide) (e2 ▸ e), fun q hq => own_kept (h.own q hq) hk fun j e e2 => hr.rb.noRow (h.own q hq) (by decide) (e2 ▸ e), h.kept.trans hk fun i hi e => by omega⟩
theorem Rd.grown {w W W' : World} {R k n c : Nat} {A : Option Addr} {xs : List UInt8} {v : Value} {qs : List PV} (h : Rd W R A n c xs k) (hO : OwnP w W v qs) (hA : ∀ ad, A = some ad → xs = [] ∨ v.ownBlock ≠ some ad.block) (hg : W.grownBy W' v.ownBlock) : Rd W' R A n c xs k := by
  have hK : Kept (fun j => v.ownBlock = some j) W W' := (Kept.refl _ W).grown hg fun j e _ => e
  exact ⟨h.rb.kept hK fun e => h.rb.noRow hO.row (by decide) e, h.bs.kept' hK hA, h.hn, h.hc, h.hA, h.nR⟩
theorem drop_flat (ps : List PV) (i : Nat) (p : PV) (hp : ps[i]? = some p) : (ps.drop i).flatMap pairB = pairB p ++ (ps.drop (i + 1)).flatMap pairB := by
  rw [List.drop_eq_getElem_cons (List.getElem?_eq_some_iff.1 hp).1, List.flatMap_cons, (List.getElem?_eq_some_iff.1 hp).2]
set_option maxRecDepth 100000 in
set_option maxHeartbeats 8000000 in
theorem kTake_any (w : World) (A : Option Addr) (n c : Nat) (ps : List PV) (hn : n = (bytesP ps).length) (hn9 : n ≤ 1000000000) (h : Bs w A (bytesP ps)) (hA : A = none → c = 0) (hl : ps.length ≤ 10000) (hk : ∀ p ∈ ps, p.key.size ≤ 32768 ∧ p.b.length ≤ 32768) :
    Calls Tryz.prog 52 #[.slice A n c] w fun e w' => ∃ v qs, e = .returned (.tuple #[v, .int .i64 0]) ∧ OwnP w w' v qs ∧ qs.map PV.core = ps.map normP := by
  have HN := Lib.hid (codeNew_any w A n c (bytesP ps) hn hn9 h hA)
  obtain ⟨m, hm⟩ : ∃ m, m = ps.length := ⟨_, rfl⟩
  have Hm := Lib.hid hm
  have hm9 : (m : Int) ≤ 10000 := by omega
  have Hk := Lib.hid hk
  have Hn := Lib.hid hn
  clear h hA hk hn hl hm
  go_enter Tryz.func52, Tryz.ntmps52
  go_upto_region 2 with (go_at_call 72; refine HN.out.mono ?_; rintro e w1 ⟨R, A1, c1, rfl, hR, hrd, hk1⟩; have HR := Lib.hid hR; have HRd := Lib.hid hrd; have HK1 := Lib.hid hk1; clear hR hrd hk1)
  have HZ := Lib.hid (rdZig_any w1 R A1 n c1 (bytesP ps) (ps.flatMap pairB) 0 m HRd.out (by rw [List.drop_zero, Hm.out]; rfl) (by omega) hn9)
  rw [Nat.zero_add] at HZ
  go_upto_region 3 with (go_at_call 73; refine HZ.out.mono ?_; rintro e w2 ⟨rfl, hrd, hk2⟩; have HRd2 := Lib.hid hrd; have HK2 := Lib.hid hk2; clear hrd hk2)
  go_upto_region 9 with (go_at_call 74; refine (rdErr_any w2 R _ _ HRd2.out.rb).mono ?_; rintro e w2 ⟨rfl, rfl⟩)
  have HO2 : Hid (OwnP w w2 (.slice none 0 0) []) := Lib.hid (((OwnP.nil w).stay HK1.out).other HRd.out HR.out HK2.out)
  have HW2 : Hid (w.heap.size ≤ w2.heap.size) := Lib.hid (Nat.le_trans HK1.out.size HK2.out.size)
  go_wp2_with fail
  go_loopw [6, 27] (fun l i wr => ∃ (j : Nat) (qs : List PV), j ≤ m ∧ i = .int .i64 j ∧ Hid (OwnP w wr l qs ∧ wr.ownsRow w2.heap.size 53 3 l qs.length (cellsP qs)) ∧ Hid (qs.map PV.core = (ps.take j).map normP) ∧ Hid (w2.heap.size ≤ wr.heap.size) ∧ Hid (Rd wr R A1 n c1 (bytesP ps) ((zigB m).length + ((ps.take j).flatMap pairB).length))) (fun _ i _ => m - (intOf i).toNat)
  case atStart => exact ⟨0, [], by omega, rfl, Lib.hid ⟨HO2.out, World.ownsRow_nil _ _ _ _⟩, Lib.hid rfl, Lib.hid (Nat.le_refl _), by simpa using HRd2⟩
  case round =>
    obtain ⟨j, qs, hj, rfl, hO, hC, hsz, hRd⟩ := hrel
    by_cases hlt : j < m
    · have hj9 : (j : Int) < (m : Int) := by omega
      obtain ⟨p, hp⟩ : ∃ p, ps[j]? = some p := ⟨_, List.getElem?_eq_getElem (by have := Hm.out; omega)⟩
      have hpk := Hk.out p (List.mem_of_getElem? hp)
      have HP := Lib.hid (kPair_any wr R A1 n c1 (bytesP ps) ((ps.drop (j + 1)).flatMap pairB) _ p hRd.out (by
        have h1 : bytesP ps = (zigB m ++ (ps.take j).flatMap pairB) ++ (ps.drop j).flatMap pairB := by
          rw [List.append_assoc, ← List.flatMap_append, List.take_append_drop, Hm.out]; rfl
        rw [← List.length_append, h1, List.drop_left, drop_flat ps j p hp]) hpk.1 hpk.2 hn9)
      obtain ⟨lq, hlq⟩ : ∃ lq, lq = qs.length := ⟨_, rfl⟩
      have hlq9 : lq ≤ 10000 := by
        have h1 := congrArg List.length hC.out
        simp only [List.length_map, List.length_take] at h1
        omega
      have Hlq := Lib.hid hlq
      have Hp := Lib.hid hp
      obtain ⟨Al, cl, rfl⟩ := own_slice hO.out.1.row
      rw [← hlq]
      clear hpk hp hlq
      go_upto_region 13 with (go_at_call 75; refine HP.out.mono ?_; rintro e w3 ⟨V, rfl, ho3, hrd3, hk3⟩; obtain ⟨A3, c3, rfl⟩ := own_slice ho3; have HO3 := Lib.hid ho3; have HRd3 := Lib.hid hrd3; have HK3 := Lib.hid hk3; clear ho3 hrd3 hk3)
      obtain ⟨D, hD⟩ : ∃ D, D = w3.heap.size := ⟨_, rfl⟩
      obtain ⟨W4, hW4⟩ : ∃ W4, W4 = w3.alloc (.cells #[.string p.key, .slice A3 (nb p).length c3, .bool p.gone] 53) := ⟨_, rfl⟩
      have HB4 : Hid (BoxP W4 D ⟨p.key, nb p, p.gone, A3, c3⟩) := Lib.hid (by rw [hW4, hD]; exact heap_alloc_new w3 _)
      have hk4 : Kept (fun _ => False) w3 W4 := by rw [hW4]; exact (Kept.refl _ w3).alloc _
      have HO4 : Hid (OwnP w W4 (.slice Al lq cl) qs) := Lib.hid (by rw [Hlq.out]; exact (hO.out.1.other hRd.out HR.out HK3.out).stay hk4)
      have HV4 : Hid (W4.ownsRow w.heap.size 5 1 (.slice A3 (nb p).length c3) (nb p).length ((nb p).map bv)) := Lib.hid (own_kept (own_low HO3.out hO.out.1.kept.size) hk4 (by simp))
      have HRd4 := Lib.hid (HRd3.out.stay hk4)
      have HQ4 : Hid (W4.ownsRow w2.heap.size 53 3 (.slice Al lq cl) lq (cellsP qs)) := Lib.hid (by
        have h1 := own_kept hO.out.2 HK3.out fun j e e2 => hRd.out.rb.noRow hO.out.2 (by decide) (e2 ▸ e)
        have h2 := own_kept h1 hk4 (by simp)
        rw [Hlq.out]
        exact h2)
      rw [← hD, ← hW4]
      have HW24 : Hid (w2.heap.size ≤ W4.heap.size) := Lib.hid (Nat.le_trans hsz.out (Nat.le_trans HK3.out.size hk4.size))
      clear hD hW4 hk4
      have y0 := HB4.out.c0
      have y1 := HB4.out.c1
      have y2 := HB4.out.c2
      unfold PV.val at y1
      dsimp only at y0 y1 y2
      go_wp2_with (at_builtin; refine wpList_append_ps rfl _ _ rfl w2.heap.size _ _ _ rfl (own_kept HQ4.out ((Kept.refl (fun _ => False) W4).alloc _) (by simp)) _ 1 1 [.string p.key, .slice A3 (nb p).length c3, .bool p.gone] rfl (cs_new _ _ _) rfl (by simp [Value.oneCell']) (fun e => by cases e) (by omega) (Nat.le_trans HW24.out ((Kept.refl (fun _ => False) W4).alloc _).size) ?_; intro v7 w7 hown hgrow; obtain ⟨A7, c7, rfl⟩ := own_slice hown; have HO7 : Hid (OwnP w w7 (.slice A7 (lq + 1) c7) (qs ++ [⟨p.key, nb p, p.gone, A3, c3⟩])) := Lib.hid ((HO4.out.stay ((Kept.refl (fun _ => False) W4).alloc _)).grow (rs := [⟨p.key, nb p, p.gone, A3, c3⟩]) (by rw [← Hlq.out, cellsP_single]; exact own_low hown HW2.out) hgrow (fun r hr => by rw [List.mem_singleton.1 hr]; exact own_kept HV4.out ((Kept.refl (fun _ => False) W4).alloc _) (by simp))); have HRd7 := Lib.hid ((HRd4.out.stay ((Kept.refl (fun _ => False) W4).alloc _)).grown (HO4.out.stay ((Kept.refl (fun _ => False) W4).alloc _)) (fun ad e => (HRd2.out.low ad e).imp id fun hlt e2 => (by have := own_ge HQ4.out _ e2; omega)) hgrow); have HQ7 := Lib.hid hown; have HS7 := Lib.hid (Nat.le_trans HW24.out (Nat.le_trans ((Kept.refl (fun _ => False) W4).alloc (.cells #[.string p.key, .slice A3 (nb p).length c3, .bool p.gone] 53)).size hgrow.size)); clear hown hgrow)
      go_roundw
      case rel =>
        refine ⟨j + 1, qs ++ [⟨p.key, nb p, p.gone, A3, c3⟩], by omega, by go_num, Lib.hid ⟨HO7.out, by rw [List.length_append, cellsP_append, cellsP_single, ← Hlq.out]; exact HQ7.out⟩, Lib.hid ?_, Lib.hid HS7.out, Lib.hid ?_⟩
        · rw [List.map_append, hC.out, List.take_add_one, Hp.out, List.map_append]; rfl
        · have h1 := HRd7.out
          rw [flat_snoc ps j p Hp.out, List.length_append, ← Nat.add_assoc]; exact h1
      case measure => simp [intOf]; omega
    · obtain rfl : j = m := by omega
      have hj9 : ¬ (j : Int) < (j : Int) := by omega
      have hE : Hid (Calls Tryz.prog 76 #[.pointer (some ⟨R, 0, none⟩)] wr fun e w' => e = .returned (.int .i64 0) ∧ Kept (fun _ => False) wr w') := Lib.hid (by
        have h1 : (zigB j).length + ((ps.take j).flatMap pairB).length = n := by
          rw [Hn.out, List.take_of_length_le (by have := Hm.out; omega), Hm.out]; simp [bytesP]
        have h2 := hRd.out
        rw [h1] at h2
        exact rdEnd_any wr R A1 n c1 _ h2 hn9)
      go_wp2_with (go_at_call 76; refine hE.out.mono ?_; rintro e w5 ⟨rfl, hk5⟩; have HK5 := Lib.hid hk5; clear hk5)
      go_ret2
      refine ⟨_, qs, rfl, hO.out.1.stay HK5.out, ?_⟩
      rw [hC.out, List.take_of_length_le (by have := Hm.out; omega)]
end Go.Proofs.YtcifhfdjigfeiaaGreatDoor
end
