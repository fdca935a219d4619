import Derived.Test.YtcifhfdjigfeiaaGreatDoorZa
/-! keyed.Bytes: pairs as bytes. -/
section
set_option linter.unusedVariables false
set_option linter.unusedSimpArgs false
namespace Go.Proofs.YtcifhfdjigfeiaaGreatDoor
open Go.RowKit

theorem pairs_le (ps : List PV) : ps.length ≤ (ps.flatMap pairB).length := by
  induction ps with
  | nil => simp
  | cons q qs ih =>
    have : 1 ≤ (pairB q).length := by unfold pairB; split <;> simp <;> omega
    rw [List.flatMap_cons, List.length_append, List.length_cons]; omega
theorem bytesP_le {ps : List PV} {n m : Nat} (hn : n = ps.length) (h : (bytesP ps).length ≤ m) : n ≤ m := by
  have := pairs_le ps
  simp only [bytesP, List.length_append] at h
  omega
theorem part_le {ps : List PV} {k m : Nat} {p : PV} (hp : ps[k]? = some p) (h : (bytesP ps).length ≤ m) : (zigB ps.length).length + ((ps.take k).flatMap pairB).length + (pairB p).length ≤ m := by
  have h1 := flat_le ps (k + 1)
  rw [flat_snoc ps k p hp, List.length_append] at h1
  simp only [bytesP, List.length_append] at h
  omega
theorem num_le {ps : List PV} {n k m : Nat} {key : ByteArray} {b : List UInt8} {gone : Bool} {pA : Option Addr} {pc : Nat} (hn : n = ps.length) (hp : ps[k]? = some ⟨key, b, gone, pA, pc⟩) (h : (bytesP ps).length ≤ m) :
    (zigB n ++ (ps.take k).flatMap pairB).length + (textB (kb key)).length + 2 ≤ m ∧ (gone = false → (zigB n ++ (ps.take k).flatMap pairB).length + (textB (kb key)).length + 1 + (textB b).length ≤ m) := by
  have := part_le hp h
  subst hn
  simp only [List.length_append]
  cases gone
  · simp only [pairB, List.length_append, if_false, Bool.false_eq_true, List.length_cons] at this
    have h2 : 1 ≤ (textB b).length := by
      have := (numB_len (2 * b.length)).1
      rw [textB_len]; unfold zigB; omega
    exact ⟨by omega, fun _ => by omega⟩
  · simp only [pairB, List.length_append, if_true, List.length_cons, List.length_nil] at this
    exact ⟨by omega, fun e => by cases e⟩
theorem textB_nil_len : (textB []).length = 1 := by decide
theorem textB_ge (b : List UInt8) : b.length ≤ (textB b).length := by rw [textB_len]; omega
set_option maxRecDepth 100000 in
set_option maxHeartbeats 8000000 in
theorem kBytes_any (w : World) (A : Option Addr) (n c : Nat) (ps : List PV) (hn : n = ps.length) (hl : (bytesP ps).length ≤ 100000000) (h : PsAt w A ps) : Calls Tryz.prog 43 #[.slice A n c] w (ClonePost w (bytesP ps)) := by
  have H := Lib.hid h
  have Hn := Lib.hid hn
  have hn9 : n ≤ 100000000 := bytesP_le hn hl
  have hn8 : (n : Int) ≤ 100000000 := by omega
  have HZ := Lib.hid (codeZig_any w n (by omega))
  have HL := Lib.hid hl
  clear h hn hl
  go_enter Tryz.func43, Tryz.ntmps43
  go_wp2_with (go_at_call 66; refine HZ.out.mono ?_; rintro e w1 hP; obtain ⟨Az, cz, rfl, ha, -, -⟩ := ClonePost.acc hP; have HA := Lib.hid ha; clear hP ha)
  go_loopw [3, 11] (fun l i wr => ∃ k : Nat, k ≤ n ∧ i = .int .i64 k ∧ Hid (Acc w wr l (zigB n ++ (ps.take k).flatMap pairB))) (fun _ i _ => n - (intOf i).toNat)
  case atStart => exact ⟨0, by omega, rfl, Lib.hid (by simpa using HA.out)⟩
  case round =>
    obtain ⟨k, hk, rfl, ho⟩ := hrel
    by_cases hlt : k < n
    · have hk9 : (k : Int) < (n : Int) := by omega
      obtain ⟨p, hp⟩ : ∃ p, ps[k]? = some p := ⟨_, List.getElem?_eq_getElem (by have := Hn.out; omega)⟩
      obtain ⟨ad, rfl, hc, hok⟩ := H.out k p hp
      have hc0 := ho.out.2.cell hc.c0 (by simp)
      have hc1 := ho.out.2.cell hc.c1 (by simp)
      have hc2 := ho.out.2.cell hc.c2 (by simp)
      have Hs := Lib.hid (flat_snoc ps k _ hp)
      have Hok := Lib.hid hok
      obtain ⟨D, hD⟩ : ∃ D, D = wr.heap.size := ⟨_, rfl⟩
      obtain ⟨W0, hW0⟩ : ∃ W0, W0 = wr.alloc (.cells #[.string p.key, .slice p.A p.b.length p.c, .bool p.gone] 53) := ⟨_, rfl⟩
      have HB0 : Hid (BoxP W0 D p) := Lib.hid (by rw [hW0, hD]; exact boxP_new wr p)
      have HA0 : Hid (Acc w W0 u3 (zigB n ++ (ps.take k).flatMap pairB)) := Lib.hid (by rw [hW0]; exact ho.out.stay ((Kept.refl _ wr).alloc _))
      obtain ⟨c9, W9, hcv, hB9, hK9⟩ := str_bytes W0 p.key
      have HB9 := Lib.hid hB9
      have HX9 := Lib.hid (HB0.out.kept hK9 (by simp))
      have HA9 := Lib.hid (HA0.out.stay hK9)
      have d0 := HB0.out.c0
      obtain ⟨key, b, gone, pA, pc⟩ := p
      have HN := Lib.hid (num_le Hn.out hp HL.out)
      obtain ⟨xs0, hxs0⟩ : ∃ xs0, xs0 = zigB n ++ (ps.take k).flatMap pairB := ⟨_, rfl⟩
      rw [← hxs0] at HN HA0 HA9
      have Hxs := Lib.hid hxs0
      simp only [PV.val] at hc0 hc1 hc2
      clear hc hp hok hB9 hK9 ho hxs0
      go_upto_region 5 with fail
      rw [← hD, ← hW0]
      have Hx : Hid (W0.heap.size = W0.heap.size) := Lib.hid rfl
      clear hW0 hD hc0 hc1 hc2
      have HN1 := Lib.hid HN.out.1
      cases gone
      · have HN2 := Lib.hid (HN.out.2 rfl)
        clear HN
        go_wp2_with (first
          | (at_builtin; refine wpList_append_acc rfl _ _ rfl _ _ rfl HA13.out _ _ _ _ rfl HB13.out rfl HC13.out (by have := HN2.out; simp only [List.length_append, List.length_cons, List.length_nil]; omega) ?_; intro v4 w14 ha hg; have HA14 := Lib.hid ha; clear ha hg)
          | (go_at_call 67; refine (codeText_any _ pA b.length pc b rfl (by have := HN2.out; have := textB_ge b; omega) (Hok.out.1.kept HA12.out.2 (by simp)) Hok.out.2).mono ?_; rintro e w13 hP; obtain ⟨A13, c13, rfl, ha, hb, hc⟩ := ClonePost.acc hP; have HA13 := Lib.hid (HA12.out.stay ha.2); have HB13 := Lib.hid hb; have HC13 := Lib.hid hc; clear hP ha hb hc)
          | (at_builtin; refine wpList_append_acc rfl _ _ rfl _ _ rfl (HA11.out.stay ((Kept.refl _ _).alloc _)) _ 1 1 [0] rfl (bs_new _ _ _ rfl _) rfl (fun e => by cases e) (by have := HN1.out; simp only [List.length_append, List.length_cons, List.length_nil]; omega) ?_; intro v2 w12 ha hg; have HA12 := Lib.hid ha; have HX12 := Lib.hid ((HX11.out.kept ((Kept.refl (fun _ => False) _).alloc _) (by simp)).grown (HA11.out.stay ((Kept.refl _ _).alloc _)) hg); have e1 := HX12.out.c1; (try dsimp only [PV.val] at e1); clear ha hg)
          | (at_builtin; refine wpList_append_acc rfl _ _ rfl _ _ rfl HA10.out _ _ _ _ rfl HB10.out rfl HC10.out (by have := HN1.out; omega) ?_; intro v1 w11 ha hg; have HA11 := Lib.hid ha; have HX11 := Lib.hid (HX10.out.grown HA10.out hg); have e2 := HX11.out.c2; clear ha hg)
          | (go_at_call 67; refine (codeText_any W9 _ key.size c9 (kb key) (kb_size key).symm (by have := HN1.out; have := textB_ge (kb key); rw [kb_size] at this; omega) HB9.out (fun e => by cases e)).mono ?_; rintro e w10 hP; obtain ⟨A10, c10, rfl, ha, hb, hc⟩ := ClonePost.acc hP; have HA10 := Lib.hid (HA9.out.stay ha.2); have HX10 := Lib.hid (HX9.out.kept ha.2 (by simp)); have HB10 := Lib.hid hb; have HC10 := Lib.hid hc; clear hP ha hb hc))
        go_roundw
        case rel =>
          refine ⟨k + 1, by omega, by go_num, Lib.hid ?_⟩
          have := HA14.out
          rw [Hs.out, pairB]
          simpa [Hxs.out, List.append_assoc] using this
        case measure => simp [intOf]; omega
      · clear HN
        go_wp2_with (first
          | (at_builtin; refine wpList_append_acc rfl _ _ rfl _ _ rfl HA13.out _ _ _ _ rfl HB13.out rfl HC13.out (by have := HN1.out; have h9 := textB_nil_len; simp only [List.length_append, List.length_cons, List.length_nil]; omega) ?_; intro v4 w14 ha hg; have HA14 := Lib.hid ha; clear ha hg)
          | (go_at_call 67; refine (codeText_any _ none 0 0 [] rfl (by omega) (Bs.nil _ _) (fun _ => rfl)).mono ?_; rintro e w13 hP; obtain ⟨A13, c13, rfl, ha, hb, hc⟩ := ClonePost.acc hP; have HA13 := Lib.hid (HA12.out.stay ha.2); have HB13 := Lib.hid hb; have HC13 := Lib.hid hc; clear hP ha hb hc)
          | (at_builtin; refine wpList_append_acc rfl _ _ rfl _ _ rfl (HA11.out.stay ((Kept.refl _ _).alloc _)) _ 1 1 [1] rfl (bs_new _ _ _ rfl _) rfl (fun e => by cases e) (by have := HN1.out; simp only [List.length_append, List.length_cons, List.length_nil]; omega) ?_; intro v2 w12 ha hg; have HA12 := Lib.hid ha; have HX12 := Lib.hid ((HX11.out.kept ((Kept.refl (fun _ => False) _).alloc _) (by simp)).grown (HA11.out.stay ((Kept.refl _ _).alloc _)) hg); clear ha hg)
          | (at_builtin; refine wpList_append_acc rfl _ _ rfl _ _ rfl HA10.out _ _ _ _ rfl HB10.out rfl HC10.out (by have := HN1.out; omega) ?_; intro v1 w11 ha hg; have HA11 := Lib.hid ha; have HX11 := Lib.hid (HX10.out.grown HA10.out hg); have e2 := HX11.out.c2; clear ha hg)
          | (go_at_call 67; refine (codeText_any W9 _ key.size c9 (kb key) (kb_size key).symm (by have := HN1.out; have := textB_ge (kb key); rw [kb_size] at this; omega) HB9.out (fun e => by cases e)).mono ?_; rintro e w10 hP; obtain ⟨A10, c10, rfl, ha, hb, hc⟩ := ClonePost.acc hP; have HA10 := Lib.hid (HA9.out.stay ha.2); have HX10 := Lib.hid (HX9.out.kept ha.2 (by simp)); have HB10 := Lib.hid hb; have HC10 := Lib.hid hc; clear hP ha hb hc))
        go_roundw
        case rel =>
          refine ⟨k + 1, by omega, by go_num, Lib.hid ?_⟩
          have := HA14.out
          rw [Hs.out, pairB]
          have hz : textB [] = [0] := by decide
          rw [hz] at this
          simpa [Hxs.out, List.append_assoc] using this
        case measure => simp [intOf]; omega
    · obtain rfl : k = n := by omega
      have HA9 := Lib.hid ho.out
      rw [Hn.out, List.take_length] at HA9
      go_wp2
      go_ret
      have := HA9.out
      exact ⟨_, rfl, this.1, this.2⟩
end Go.Proofs.YtcifhfdjigfeiaaGreatDoor
end

/-! courantref22.Bytes: pairs as bytes. -/
section
set_option linter.unusedVariables false
set_option linter.unusedSimpArgs false
namespace Go.Proofs.YtcifhfdjigfeiaaGreatDoor
open Go.RowKit

end Go.Proofs.YtcifhfdjigfeiaaGreatDoor
end

/-! code.Reader: how it lies; New, Num, Zig, Raw, Text over bytes that were made. -/
section
set_option linter.unusedVariables false
set_option linter.unusedSimpArgs false
namespace Go.Proofs.YtcifhfdjigfeiaaGreatDoor
open Go.RowKit

/-- The block of a reader without a fault. -/
def RdB (w : World) (R : Nat) (v : Value) (k : Nat) : Prop := w.heap[R]? = some (.cells #[v, .int .i64 (k : Nat), .int .i64 0] 138 (0, 0))
section
variable {w w' : World} {R k : Nat} {v : Value}
theorem RdB.c0 (h : RdB w R v k) : w.cell? ⟨R, 0, none⟩ = some v := by simp [World.cell?, show w.heap[R]? = _ from h]
theorem RdB.c1 (h : RdB w R v k) : w.cell? ⟨R, 1, none⟩ = some (.int .i64 (k : Nat)) := by simp [World.cell?, show w.heap[R]? = _ from h]
theorem RdB.c2 (h : RdB w R v k) : w.cell? ⟨R, 2, none⟩ = some (.int .i64 0) := by simp [World.cell?, show w.heap[R]? = _ from h]
theorem RdB.fz (h : RdB w R v k) (i : Nat) : w.frozen? ⟨R, i, none⟩ = false := by simp [World.frozen?, show w.heap[R]? = _ from h]
theorem RdB.s1 (h : RdB w R v k) (u : Nat) : RdB (w.setCell ⟨R, 1, none⟩ (.int .i64 (u : Nat))) R v u := by
  unfold RdB World.setCell; simp only [Array.getElem?_modify, if_true, show w.heap[R]? = _ from h]; rfl
theorem RdB.kept {S : Nat → Prop} (h : RdB w R v k) (hk : Kept S w w') (hS : ¬ S R) : RdB w' R v k := hk.heap h hS
end
/-- A reader, its bytes, and its place. -/
structure Rd (w : World) (R : Nat) (A : Option Addr) (n c : Nat) (xs : List UInt8) (k : Nat) : Prop where
  rb : RdB w R (.slice A n c) k
  bs : Bs w A xs
  hn : n = xs.length
  hc : n ≤ c
  hA : A = none → c = 0
  nR : ∀ ad, A = some ad → ad.block ≠ R
section
variable {w w' : World} {R k n c : Nat} {A : Option Addr} {xs : List UInt8}
theorem Rd.stay (h : Rd w R A n c xs k) (hk : Kept (fun _ => False) w w') : Rd w' R A n c xs k := ⟨h.rb.kept hk (by simp), h.bs.kept hk (by simp), h.hn, h.hc, h.hA, h.nR⟩
theorem Rd.turn {k' : Nat} (h : Rd w R A n c xs k) (hb : RdB w' R (.slice A n c) k') (hk : Kept (fun j => j = R) w w') : Rd w' R A n c xs k' := ⟨hb, h.bs.kept hk h.nR, h.hn, h.hc, h.hA, h.nR⟩
theorem Rd.go (h : Rd w R A n c xs k) (u : Nat) : Rd (w.setCell ⟨R, 1, none⟩ (.int .i64 (u : Nat))) R A n c xs u := h.turn (h.rb.s1 u) (kF w R 1 _)
end
set_option maxHeartbeats 1000000 in
theorem rdReady_any (w : World) (R : Nat) (v : Value) (k : Nat) (h : RdB w R v k) : Calls Tryz.prog 106 #[.pointer (some ⟨R, 0, none⟩)] w fun e w' => e = .returned (.bool true) ∧ w' = w := by
  have c2 := h.c2
  clear h
  go_enter Tryz.func106, Tryz.ntmps106
  go_wp2
  go_ret
  exact ⟨rfl, rfl⟩
set_option maxHeartbeats 1000000 in
theorem rdErr_any (w : World) (R : Nat) (v : Value) (k : Nat) (h : RdB w R v k) : Calls Tryz.prog 74 #[.pointer (some ⟨R, 0, none⟩)] w fun e w' => e = .returned (.int .i64 0) ∧ w' = w := by
  have c2 := h.c2
  clear h
  go_enter Tryz.func74, Tryz.ntmps74
  go_wp2
  go_ret
  exact ⟨rfl, rfl⟩
set_option maxHeartbeats 1000000 in
theorem rdLeft_any (w : World) (R : Nat) (A : Option Addr) (n c : Nat) (xs : List UInt8) (k : Nat) (h : Rd w R A n c xs k) (hk : k ≤ n) (hn : n ≤ 1000000000) : Calls Tryz.prog 96 #[.pointer (some ⟨R, 0, none⟩)] w fun e w' => e = .returned (.int .i64 ((n - k : Nat) : Int)) ∧ ∃ m, w' = w.drewN m := by
  have c0 := h.rb.c0
  have c1 := h.rb.c1
  obtain ⟨x, hx⟩ : ∃ x, x = n - k := ⟨_, rfl⟩
  have hx9 : (n : Int) - (k : Int) = (x : Int) := by omega
  rw [← hx]
  have hn9 : (n : Int) ≤ 1000000000 := by omega
  clear h hx
  go_enter Tryz.func96, Tryz.ntmps96
  go_wp2
  go_quiet (fail)
  go_wp2
  go_ret
  exact ⟨rfl, _, rfl⟩
set_option maxHeartbeats 1000000 in
theorem rdEnd_any (w : World) (R : Nat) (A : Option Addr) (n c : Nat) (xs : List UInt8) (h : Rd w R A n c xs n) (hn : n ≤ 1000000000) : Calls Tryz.prog 76 #[.pointer (some ⟨R, 0, none⟩)] w fun e w' => e = .returned (.int .i64 0) ∧ Kept (fun _ => False) w w' := by
  have HE := Lib.hid (rdErr_any w R _ n h.rb)
  have HL := Lib.hid (rdLeft_any w R A n c xs n h (Nat.le_refl _) hn)
  rw [Nat.sub_self] at HL
  clear h
  go_enter Tryz.func76, Tryz.ntmps76
  go_wp2_with (first
    | (go_at_call 74; refine HE.out.mono ?_; rintro e w ⟨rfl, rfl⟩)
    | (go_at_call 96; refine HL.out.mono ?_; rintro e w1 ⟨rfl, m, hm⟩; have HK : Hid (Kept (fun _ => False) w w1) := Lib.hid (by rw [hm]; exact (Kept.refl _ _).drewN _); clear hm))
  go_ret
  exact ⟨rfl, HK.out⟩
theorem and127 (x : Nat) (h : x < 256) : bits .and .u8 (x : Int) 127 = ((x % 128 : Nat) : Int) := by
  have h1 : (BitVec.ofInt 8 (x : Int)).toNat = x := by
    rw [BitVec.ofInt_natCast, BitVec.toNat_ofNat]; exact Nat.mod_eq_of_lt (by omega)
  have h2 : x &&& 127 = x % 128 := Nat.and_two_pow_sub_one_eq_mod x 7
  show IntKind.u8.wrap ((BitVec.ofInt 8 (x : Int) &&& BitVec.ofInt 8 127).toNat : Int) = _
  rw [BitVec.toNat_and, h1, show (BitVec.ofInt 8 127).toNat = 127 from rfl, h2, IntKind.wrap_u8]
  omega
theorem orAdd (x y m : Nat) (hx : x < 2 ^ m) (h : x + y * 2 ^ m < 18446744073709551616) : bits .or .u64 (x : Int) ((y * 2 ^ m : Nat) : Int) = ((x + y * 2 ^ m : Nat) : Int) := by
  have h1 : (BitVec.ofInt 64 (x : Int)).toNat = x := by
    rw [BitVec.ofInt_natCast, BitVec.toNat_ofNat]; exact Nat.mod_eq_of_lt (by omega)
  have h2 : (BitVec.ofInt 64 ((y * 2 ^ m : Nat) : Int)).toNat = y * 2 ^ m := by
    rw [BitVec.ofInt_natCast, BitVec.toNat_ofNat]; exact Nat.mod_eq_of_lt (by omega)
  have h3 : x ||| y * 2 ^ m = x + y * 2 ^ m := by
    have := Nat.two_pow_add_eq_or_of_lt (i := m) (b := x) hx y
    rw [Nat.or_comm, Nat.mul_comm y, ← this, Nat.add_comm]
  show IntKind.u64.wrap ((BitVec.ofInt 64 (x : Int) ||| BitVec.ofInt 64 ((y * 2 ^ m : Nat) : Int)).toNat : Int) = _
  rw [BitVec.toNat_or, h1, h2, h3, IntKind.wrap_u64]
  omega
theorem pow128 (j : Nat) : 128 ^ j = 2 ^ (7 * j) := by rw [Nat.pow_mul]
theorem bs_at {w : World} {ad : Addr} {xs : List UInt8} {k : Nat} {x : UInt8} (h : Bs w (some ad) xs) (hx : xs[k]? = some x) : w.cell? (ad.add k) = some (.int .u8 (x.toNat : Nat)) := h.2 ad rfl k _ (by rw [List.getElem?_map, hx]; rfl)
/-- What one more byte does to a number. -/
theorem num_step {acc U j V : Nat} (hV : V ≤ 2000000000000) (he : acc + U * 128 ^ j = V) (ha : acc < 128 ^ j) (hU : 0 < j → 1 ≤ U) : j ≤ 5 ∧ acc ≤ 2000000000000 ∧ U ≤ 2000000000000 ∧ U % 128 * 2 ^ (7 * j) ≤ 2000000000000 ∧ acc + U % 128 * 2 ^ (7 * j) + U / 128 * 128 ^ (j + 1) = V ∧ acc + U % 128 * 2 ^ (7 * j) < 128 ^ (j + 1) ∧ acc < 2 ^ (7 * j) := by
  rw [← pow128]
  have h1 : U * 1 ≤ U * 128 ^ j := Nat.mul_le_mul_left _ (Nat.one_le_pow _ _ (by omega))
  have h2 : U % 128 * 128 ^ j ≤ U * 128 ^ j := Nat.mul_le_mul_right _ (by omega)
  have h3 : U * 128 ^ j = U % 128 * 128 ^ j + U / 128 * 128 ^ (j + 1) := by
    rw [Nat.pow_succ, ← Nat.mul_assoc, Nat.mul_right_comm, ← Nat.add_mul]
    congr 1
    omega
  have h4 : U % 128 * 128 ^ j ≤ 127 * 128 ^ j := Nat.mul_le_mul_right _ (by omega)
  refine ⟨?_, by omega, by omega, by omega, by omega, by rw [Nat.pow_succ]; omega, ha⟩
  rcases Nat.lt_or_ge 5 j with h | h
  · have h5 : 128 ^ 6 ≤ 128 ^ j := Nat.pow_le_pow_right (by omega) h
    have h6 : 1 * 128 ^ j ≤ U * 128 ^ j := Nat.mul_le_mul_right _ (hU (by omega))
    have h7 : (128 : Nat) ^ 6 = 4398046511104 := by decide
    omega
  · exact h
set_option maxRecDepth 100000 in
set_option maxHeartbeats 4000000 in
theorem rdNum_any (w : World) (R : Nat) (A : Option Addr) (n c : Nat) (xs post : List UInt8) (k V : Nat) (h : Rd w R A n c xs k) (hx : xs.drop k = numB V ++ post) (hV : V ≤ 2000000000000) (hn : n ≤ 1000000000) :
    Calls Tryz.prog 93 #[.pointer (some ⟨R, 0, none⟩)] w fun e w' => e = .returned (.int .u64 (V : Nat)) ∧ Rd w' R A n c xs (k + (numB V).length) ∧ Kept (fun j => j = R) w w' := by
  have HR := Lib.hid (rdReady_any w R _ k h.rb)
  have H := Lib.hid h
  have c1 := h.rb.c1
  have Hx := Lib.hid hx
  have HV := Lib.hid hV
  have hn9 : (n : Int) ≤ 1000000000 := by omega
  obtain ⟨ad, rfl⟩ : ∃ ad, A = some ad := by
    cases A with
    | some ad => exact ⟨ad, rfl⟩
    | none =>
      have h1 := h.bs.1 rfl
      rw [h1] at hx
      have h2 := congrArg List.length hx
      have h3 := (numB_len V).1
      simp only [List.drop_nil, List.length_nil, List.length_append] at h2
      omega
  clear h hx hV
  go_enter Tryz.func93, Tryz.ntmps93
  go_wp2_with fail
  go_step3
  go_wp2_with (go_at_call 106; refine HR.out.mono ?_; rintro e w ⟨rfl, rfl⟩)
  go_step3
  go_wp2_with (go_at_call 106; refine HR.out.mono ?_; rintro e w ⟨rfl, rfl⟩)
  clear c1
  go_loopw [4, 6] (fun v i wr => ∃ j acc U : Nat, v = .int .u64 (acc : Nat) ∧ i = .int .i64 (j : Nat) ∧ Hid (acc + U * 128 ^ j = V ∧ acc < 128 ^ j ∧ (0 < j → 1 ≤ U)) ∧ Hid (xs.drop (k + j) = numF (10 - j) U ++ post ∧ j + (numF (10 - j) U).length = (numB V).length) ∧ Hid (Rd wr R (some ad) n c xs (k + j)) ∧ Hid (Kept (fun q => q = R) w wr)) (fun _ i _ => 10 - (intOf i).toNat)
  case atStart => exact ⟨0, 0, V, rfl, rfl, Lib.hid ⟨by simp, by simp, fun h => absurd h (Nat.lt_irrefl 0)⟩, Lib.hid ⟨Hx.out, by simp [numB]⟩, H, Lib.hid (Kept.refl _ _)⟩
  case round =>
    obtain ⟨j, acc, U, rfl, rfl, hA, hF, hRd, hK⟩ := hrel
    obtain ⟨hj5, ha9, hU9, hz9, hs1, hs2, hs3⟩ := num_step HV.out hA.out.1 hA.out.2.1 hA.out.2.2
    obtain ⟨p, hp⟩ : ∃ p, p = k + j := ⟨_, rfl⟩
    rw [← hp] at hF hRd
    have d0 := hRd.out.rb.c0
    have d1 := hRd.out.rb.c1
    have f1 := hRd.out.rb.fz 1
    obtain ⟨x, rest, hxr⟩ : ∃ x rest, numF (10 - j) U ++ post = x :: rest := by
      have h1 := (num_len (10 - j) U).1
      cases hl : numF (10 - j) U with
      | nil => rw [hl] at h1; simp at h1
      | cons x r => exact ⟨x, r ++ post, rfl⟩
    have hxp : xs[p]? = some x := by
      have h1 := hF.out.1
      rw [hxr] at h1
      have h2 : (xs.drop p)[0]? = some x := by rw [h1]; rfl
      rw [List.getElem?_drop] at h2
      exact h2
    have hpn : (p : Int) < (n : Int) := by have := (List.getElem?_eq_some_iff.1 hxp).1; have := hRd.out.hn; omega
    have dx := bs_at hRd.out.bs hxp
    have hnf : numF (10 - j) U = if U < 128 then [UInt8.ofNat U] else UInt8.ofNat (U % 128 + 128) :: numF (10 - (j + 1)) (U / 128) := by
      rw [show 10 - j = (10 - (j + 1)) + 1 by omega]; rfl
    obtain ⟨y, hy⟩ : ∃ y, y = U % 128 := ⟨_, rfl⟩
    obtain ⟨s, hs⟩ : ∃ s, s = 7 * j := ⟨_, rfl⟩
    have hx256 := x.toNat_lt
    obtain ⟨xn, hxn⟩ : ∃ xn, xn = x.toNat := ⟨_, rfl⟩
    rw [← hxn] at dx hx256
    have hxy : xn % 128 = y ∧ (U < 128 → xn = U) ∧ (128 ≤ U → xn = y + 128) := by
      rw [hnf] at hxr
      split at hxr
      · have h1 : x = UInt8.ofNat U := (List.cons.inj hxr).1.symm
        have h2 : xn = U := by rw [hxn, h1, UInt8.toNat_ofNat']; omega
        omega
      · have h1 : x = UInt8.ofNat (U % 128 + 128) := (List.cons.inj hxr).1.symm
        have h2 : xn = U % 128 + 128 := by rw [hxn, h1, UInt8.toNat_ofNat']; omega
        omega
    have hand : bits .and .u8 (xn : Int) 127 = (y : Int) := by rw [and127 xn (by omega), hxy.1]
    have hw3 : IntKind.i64.wrap (7 * (j : Int)) = (s : Int) := by rw [IntKind.wrap_i64]; omega
    obtain ⟨z, hz⟩ : ∃ z, z = y * 2 ^ s := ⟨_, rfl⟩
    have hz8 : z ≤ 2000000000000 := by rw [hz, hy, hs]; exact hz9
    have hsh : Op.shift .shl .u64 (y : Int) .i64 (s : Int) = pure (.int .u64 (z : Nat)) := by
      rw [shift_shl_any _ _ _ _ (by omega)]
      have h9 : ((y : Int)) * 2 ^ min ((s : Int)).toNat 64 = (z : Int) := by
        rw [Int.toNat_natCast, Nat.min_eq_left (by omega), hz]
        norm_cast
      rw [show IntKind.u64.bits = 64 from rfl, h9, IntKind.wrap_u64]
      congr 2
      omega
    obtain ⟨t, ht⟩ : ∃ t, t = acc + z := ⟨_, rfl⟩
    have hor : bits .or .u64 (acc : Int) (z : Int) = (t : Int) := by
      rw [hz, orAdd acc y s (by rw [hs]; exact hs3) (by rw [← hz]; omega), ht, hz]
    have hw5 : IntKind.i64.wrap ((p : Int) + 1) = ((p + 1 : Nat) : Int) := by rw [IntKind.wrap_i64]; omega
    have hj9 : (j : Int) ≤ 5 := by omega
    have hy9 : (y : Int) < 128 := by omega
    have hHz : Hid (z = U % 128 * 2 ^ (7 * j) ∧ t = acc + z ∧ p = k + j) := Lib.hid ⟨by rw [hz, hy, hs], ht, hp⟩
    have HS := Lib.hid (And.intro hs1 hs2)
    have HXy := Lib.hid hxy
    have HNf := Lib.hid hnf
    have hxn9 : (xn : Int) < 256 := by omega
    clear hs1 hs2 hs3 hz9 hnf hxr hxp hz ht hy hs hxn hp hxy
    have hj0 : ¬ (j : Int) = 9 := by omega
    have HG : Hid (∀ m, Rd ((wr.drewN m).setCell ⟨R, 1, none⟩ (.int .i64 ((p : Int) + 1))) R (some ad) n c xs (p + 1) ∧ Kept (fun q => q = R) w ((wr.drewN m).setCell ⟨R, 1, none⟩ (.int .i64 ((p : Int) + 1)))) := Lib.hid fun m => by
      have h1 := (hRd.out.stay ((Kept.refl _ wr).drewN m)).go (p + 1)
      rw [show ((p + 1 : Nat) : Int) = (p : Int) + 1 by omega] at h1
      exact ⟨h1, (hK.out.drewN m).trans' (kF _ R 1 _)⟩
    by_cases hU : U < 128
    · have hx7 : (xn : Int) < 128 := by have := HXy.out.2.1 hU; omega
      have hV : V = t := by
        have h1 := HS.out.1
        have h2 := hHz.out
        rw [← h2.1, Nat.div_eq_of_lt hU, Nat.zero_mul] at h1
        omega
      have hx0 : 0 < j → ¬ (xn : Int) = 0 := fun h => by have := hA.out.2.2 h; have := HXy.out.2.1 hU; omega
      subst hV
      have HEnd : Hid (∀ m, Rd ((wr.drewN m).setCell ⟨R, 1, none⟩ (.int .i64 ((p : Int) + 1))) R (some ad) n c xs (k + (numB V).length) ∧ Kept (fun q => q = R) w ((wr.drewN m).setCell ⟨R, 1, none⟩ (.int .i64 ((p : Int) + 1)))) := Lib.hid fun m => by
        have h1 := hF.out.2
        rw [HNf.out, if_pos hU] at h1
        have h2 := hHz.out.2.2
        rw [show k + (numB V).length = p + 1 by simp at h1; omega]
        exact HG.out m
      rcases Nat.eq_zero_or_pos j with hjz | hjz
      · have hj7 : ¬ (0 : Int) < (j : Int) := by omega
        clear hx0 hjz
        go_upto_region 5 with fail
        go_quiet (fail)
        go_upto_region 7 with fail
        go_quiet (fail)
        go_wp2
        (try rw [Exit.noGoto_ret])
        go_ret
        exact ⟨rfl, HEnd.out _⟩
      · have hj7 : (0 : Int) < (j : Int) := by omega
        have hx1 := hx0 hjz
        clear hx0 hjz
        go_upto_region 5 with fail
        go_quiet (fail)
        go_upto_region 7 with fail
        go_quiet (fail)
        go_wp2
        (try rw [Exit.noGoto_ret])
        go_ret
        exact ⟨rfl, HEnd.out _⟩
    · have hx7 : ¬ (xn : Int) < 128 := by have := HXy.out.2.2 (by omega); omega
      have hx0 : ¬ (xn : Int) = 0 := by have := HXy.out.2.2 (by omega); omega
      have HEnd : Hid (∀ m, ∃ j_1 acc U : Nat, Value.int .u64 (t : Nat) = .int .u64 (acc : Nat) ∧ Value.int .i64 ((j : Int) + 1) = .int .i64 (j_1 : Nat) ∧ Hid (acc + U * 128 ^ j_1 = V ∧ acc < 128 ^ j_1 ∧ (0 < j_1 → 1 ≤ U)) ∧ Hid (xs.drop (k + j_1) = numF (10 - j_1) U ++ post ∧ j_1 + (numF (10 - j_1) U).length = (numB V).length) ∧ Hid (Rd ((wr.drewN m).setCell ⟨R, 1, none⟩ (.int .i64 ((p : Int) + 1))) R (some ad) n c xs (k + j_1)) ∧ Hid (Kept (fun q => q = R) w ((wr.drewN m).setCell ⟨R, 1, none⟩ (.int .i64 ((p : Int) + 1))))) := Lib.hid fun m => by
        have h1 := HS.out
        have h2 := hHz.out
        rw [← h2.1, ← h2.2.1] at h1
        have h3 := hF.out
        rw [HNf.out, if_neg hU] at h3
        refine ⟨j + 1, t, U / 128, rfl, by go_num, Lib.hid ⟨h1.1, h1.2, fun _ => by omega⟩, Lib.hid ⟨?_, ?_⟩, Lib.hid ?_, Lib.hid (HG.out m).2⟩
        · have h4 := congrArg (List.drop 1) h3.1
          rw [List.drop_drop] at h4
          rw [show k + (j + 1) = p + 1 by omega]
          exact h4
        · have h4 := h3.2
          rw [List.length_cons] at h4
          omega
        · rw [show k + (j + 1) = p + 1 by omega]
          exact (HG.out m).1
      rcases Nat.eq_zero_or_pos j with hjz | hjz
      · have hj7 : ¬ (0 : Int) < (j : Int) := by omega
        clear hjz
        go_upto_region 5 with fail
        go_quiet (fail)
        go_upto_region 7 with fail
        go_quiet (fail)
        go_wp2
        go_roundw
        case rel =>
          exact HEnd.out _
        case measure => simp [intOf]; omega
      · have hj7 : (0 : Int) < (j : Int) := by omega
        clear hjz
        go_upto_region 5 with fail
        go_quiet (fail)
        go_upto_region 7 with fail
        go_quiet (fail)
        go_wp2
        go_roundw
        case rel =>
          exact HEnd.out _
        case measure => simp [intOf]; omega
end Go.Proofs.YtcifhfdjigfeiaaGreatDoor
end
