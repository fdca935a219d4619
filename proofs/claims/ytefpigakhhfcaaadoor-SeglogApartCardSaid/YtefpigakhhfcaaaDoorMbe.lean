import Derived.Test.YtefpigakhhfcaaaDoorMbd
import Derived.Laws.Bits64b
/-! seglog.file: how a segment's file is called. -/
section
set_option linter.unusedVariables false
set_option linter.unusedSimpArgs false
namespace Go.Proofs.YtefpigakhhfcaaaDoor
open Go.RowKit

def hexAt (v i : Nat) : UInt8 := hexc (v / 2 ^ (4 * (15 - i)) % 16)
theorem hexN_eq : ∀ (n v : Nat), hexN n v = (List.range n).map fun i => hexc (v / 2 ^ (4 * (n - 1 - i)) % 16)
  | 0, v => rfl
  | n + 1, v => by
    rw [hexN, hexN_eq n, List.range_succ, List.map_append]
    congr 1
    · refine List.map_congr_left fun i hi => ?_
      have h := List.mem_range.1 hi
      congr 2
      rw [show (16 : Nat) = 2 ^ 4 from rfl, Nat.div_div_eq_div_mul, ← Nat.pow_add]
      congr 2
      omega
    · simp
def rowH (v i : Nat) : List Value := ((List.range i).map (hexAt v)).map bv ++ List.replicate (16 - i) (.int .u8 0)
theorem rowH_len (v i : Nat) (h : i ≤ 16) : (rowH v i).length = 16 := by simp [rowH]; omega
theorem rowH_at (v i : Nat) (h : i < 16) : (rowH v i)[i]? = some (.int .u8 0) := by
  unfold rowH
  rw [List.getElem?_append_right (by simp), show i - (((List.range i).map (hexAt v)).map bv).length = 0 by simp, List.getElem?_replicate, if_pos (by omega)]
theorem rowH_set (v i : Nat) (h : i < 16) : (rowH v i).set i (bv (hexAt v i)) = rowH v (i + 1) := by
  unfold rowH
  rw [List.set_append_right _ _ (by simp), show 16 - i = (16 - (i + 1)) + 1 by omega, List.replicate_succ]
  simp only [List.length_map, List.length_range, Nat.sub_self, List.set_cons_zero, List.range_succ, List.map_append, List.map_cons, List.map_nil, List.append_assoc, List.singleton_append]
theorem and15 (z : Nat) (h : z < 18446744073709551616) : bits .and .u64 (z : Int) 15 = ((z % 16 : Nat) : Int) := by
  have := bits_and_u64_nat z 15 h (by decide)
  rw [show ((15 : Nat) : Int) = 15 from rfl] at this
  rw [this]
  congr 1
  exact Nat.and_two_pow_sub_one_eq_mod z 4
theorem digit_at (d : Nat) (h : d < 16) : ((⟨#[48, 49, 50, 51, 52, 53, 54, 55, 56, 57, 97, 98, 99, 100, 101, 102]⟩ : ByteArray).data.toList)[d]? = some (hexc d) := by
  have : ∀ d : Fin 16, ((⟨#[48, 49, 50, 51, 52, 53, 54, 55, 56, 57, 97, 98, 99, 100, 101, 102]⟩ : ByteArray).data.toList)[d.val]? = some (hexc d.val) := by decide
  exact this ⟨d, h⟩
theorem digit_get (d : Nat) (h : d < 16) : ∀ hp : d < (⟨#[48, 49, 50, 51, 52, 53, 54, 55, 56, 57, 97, 98, 99, 100, 101, 102]⟩ : ByteArray).size, (⟨#[48, 49, 50, 51, 52, 53, 54, 55, 56, 57, 97, 98, 99, 100, 101, 102]⟩ : ByteArray)[d]'hp = hexc d := by
  have : ∀ d : Fin 16, ∀ hp : d.val < (⟨#[48, 49, 50, 51, 52, 53, 54, 55, 56, 57, 97, 98, 99, 100, 101, 102]⟩ : ByteArray).size, (⟨#[48, 49, 50, 51, 52, 53, 54, 55, 56, 57, 97, 98, 99, 100, 101, 102]⟩ : ByteArray)[d.val]'hp = hexc d.val := by decide
  exact this ⟨d, h⟩
theorem file_str (nm : ByteArray) (v : Nat) : nm ++ (⟨#[46, 115]⟩ : ByteArray) ++ (⟨(hexN 16 v).toArray⟩ : ByteArray) = fileB nm v := by
  apply ByteArray.ext
  rw [ByteArray.data_append, ByteArray.data_append]
  apply Array.toList_inj.1
  simp [fileB, fileL]
set_option maxRecDepth 100000 in
set_option maxHeartbeats 4000000 in
theorem slFile_any (w : World) (nm : ByteArray) (v : Nat) (hn : nm.size ≤ 1000000) (hv : v < 18446744073709551616) : Calls Tryd.prog 22 #[.string nm, .int .u64 (v : Nat)] w fun e w' => e = .returned (.string (fileB nm v)) ∧ Kept (fun _ => False) w w' := by
  have hs3 : ¬ 9223372036854775807 < nm.size + 2 := by omega
  have hmk : (Instr.makeSlice 31 (.int .i64 16) (.int .i64 16)).run Tryd.prog w = .ok (.slice (some ⟨w.heap.size, 0, none⟩) 16 16) (w.alloc (.cells (List.replicate 16 (Value.int .u8 0)).toArray 5)) := make_bytes w 16 (by omega)
  have h0 : (w.alloc (.cells (List.replicate 16 (Value.int .u8 0)).toArray 5)).heap[w.heap.size]? = some (.cells (rowH v 0).toArray 5 (0, 0)) := heap_alloc_new w _
  obtain ⟨W0, hW0⟩ : ∃ W0, W0 = w.alloc (.cells (List.replicate 16 (Value.int .u8 0)).toArray 5) := ⟨_, rfl⟩
  have hk0 : Kept (fun _ => False) w W0 := by rw [hW0]; exact (Kept.refl _ w).alloc _
  obtain ⟨B, hB⟩ : ∃ B, B = w.heap.size := ⟨_, rfl⟩
  rw [← hW0, ← hB] at hmk
  rw [← hW0, ← hB] at h0
  have H0 := Lib.hid h0
  have HK0 := Lib.hid hk0
  have HB := Lib.hid hB
  clear h0 hk0 hB hW0
  go_enter Tryd.func22, Tryd.ntmps22
  go_wp2
  go_loopw [6, 10] (fun _ i wx => ∃ j : Nat, i = .int .i64 j ∧ j ≤ 16 ∧ Hid (wx.heap[B]? = some (.cells (rowH v j).toArray 5 (0, 0))) ∧ Hid (Kept (fun k => k = B) W0 wx)) (fun _ i _ => 16 - (intOf i).toNat)
  case atStart => exact ⟨0, rfl, by omega, H0, Lib.hid (Kept.refl _ _)⟩
  case round =>
    obtain ⟨j, rfl, hj, hH, hK⟩ := hrel
    by_cases hlt : j < 16
    · have hj9 : (j : Int) < 16 := by omega
      have a1 : wr.cell? ⟨B, j, none⟩ = some (.int .u8 0) := by simp [World.cell?, hH.out, rowH_at v j hlt]
      have f1 : wr.frozen? ⟨B, j, none⟩ = false := by simp [World.frozen?, hH.out]
      have hj0 : (j : Int) ≤ 15 := by omega
      obtain ⟨d, hd⟩ : ∃ d, d = v / 2 ^ (4 * (15 - j)) % 16 := ⟨_, rfl⟩
      have hz : v / 2 ^ (4 * (15 - j)) < 18446744073709551616 := Nat.lt_of_le_of_lt (Nat.div_le_self _ _) hv
      have hand : bits .and .u64 ((v : Int) / 2 ^ (4 * (15 - j))) 15 = (d : Int) := by
        rw [hd, ← and15 _ hz]
        congr 1
      have hd16 : d < 16 := by rw [hd]; exact Nat.mod_lt _ (by decide)
      have hdi : (d : Int) < 16 := by omega
      have Hd := Lib.hid hd
      clear hd hz
      go_wp2
      go_roundw
      case rel =>
        refine ⟨j + 1, by go_num, by omega, Lib.hid ?_, Lib.hid (hK.out.trans' (kF _ B j _))⟩
        rw [digit_get d hd16]
        have hh := hH.out
        simp only [World.setCell, Array.getElem?_modify, if_true, hh]
        rw [Hd.out, ← rowH_set v j hlt]
        simp [hexAt, bv]
      case measure => simp [intOf]; omega
    · have hj9 : ¬ (j : Int) < 16 := by omega
      have hj16 : j = 16 := by omega
      have hb : Bs wr (some ⟨B, 0, none⟩) (hexN 16 v) := ⟨fun e => (by cases e), fun ad e i u hu => by
        cases e
        have h1 := hH.out
        rw [hj16] at h1
        have h2 : rowH v 16 = (hexN 16 v).map bv := by rw [hexN_eq]; simp [rowH, hexAt]
        rw [h2] at h1
        have h3 : (⟨B, 0, none⟩ : Addr).add i = ⟨B, i, none⟩ := by unfold Addr.add; split <;> simp_all
        rw [h3]
        simp only [World.cell?, h1]
        simpa using hu⟩
      have hcv := conv_run wr (some ⟨B, 0, none⟩) 16 16 (hexN 16 v) (hexN_len 16 v).symm hb
      have hs4 : ¬ 9223372036854775807 < (nm ++ (⟨#[46, 115]⟩ : ByteArray)).size + 16 := by rw [ByteArray.size_append]; show ¬ 9223372036854775807 < nm.size + 2 + 16; omega
      have hs5 : (⟨(hexN 16 v).toArray⟩ : ByteArray).size = 16 := by show (hexN 16 v).toArray.size = 16; simp [hexN_len]
      clear hb
      go_wp2
      go_ret
      exact ⟨congrArg (fun s => Ending.returned (.string s)) (file_str nm v), HK0.out.trans hK.out fun i hi e => by have := HB.out; omega⟩
end Go.Proofs.YtefpigakhhfcaaaDoor
end

/-! strings.CutPrefix, strings.IndexByte among the digits. -/
section
set_option linter.unusedVariables false
set_option linter.unusedSimpArgs false
namespace Go.Proofs.YtefpigakhhfcaaaDoor
open Go.RowKit

def digitsB : ByteArray := ⟨#[48, 49, 50, 51, 52, 53, 54, 55, 56, 57, 97, 98, 99, 100, 101, 102]⟩
def digI (c : UInt8) : Int := match dig c with
  | none => -1
  | some d => d
theorem idx_dig (c : UInt8) : Lib.indexByte digitsB.data.toList c = digI c := by
  have : ∀ n : Fin 256, Lib.indexByte digitsB.data.toList (UInt8.ofNat n.val) = digI (UInt8.ofNat n.val) := by decide +kernel
  have h := this ⟨c.toNat, c.toNat_lt⟩
  simpa using h
set_option maxHeartbeats 1000000 in
theorem indexDigit_any (c : UInt8) (w : World) : Calls Tryd.prog 47 #[.string digitsB, .int .u8 (c.toNat : Nat)] w fun e w' => e = .returned (.int .i64 (digI c)) ∧ w' = w := by
  have H := Lib.hid (indexb_any digitsB (c.toNat : Nat) w)
  have hc : Lib.indexByte digitsB.data.toList ((c.toNat : Nat) : Int).toNat.toUInt8 = digI c := by rw [← idx_dig c]; simp
  rw [hc] at H
  clear hc
  go_enter Tryd.func47, Tryd.ntmps47
  go_wp2_with (go_at_call 60; refine H.out.mono ?_; rintro e w' ⟨rfl, rfl⟩)
  go_ret
  exact ⟨rfl, rfl⟩
set_option maxHeartbeats 1000000 in
theorem hasPrefix_any (s p : ByteArray) (w : World) (hs : s.size ≤ 1000000000) (hp : p.size ≤ 1000000000) (b : Bool) (hb : b = decide (p.size ≤ s.size ∧ s.extract 0 p.size = p)) :
    Calls Tryd.prog 71 #[.string s, .string p] w fun e w' => e = .returned (.bool b) ∧ w' = w := by
  by_cases h1 : p.size ≤ s.size
  · have h2 : (p.size : Int) ≤ (s.size : Int) := by omega
    have HE : Hid (((s.extract 0 p.size).toList == p.toList) = b) := Lib.hid (by
      rw [hb, Bool.eq_iff_iff, beq_iff_eq, decide_eq_true_iff, Lib.toList_data, Lib.toList_data]
      exact ⟨fun h => ⟨h1, ByteArray.ext (Array.toList_inj.1 h)⟩, fun h => by rw [h.2]⟩)
    clear hb
    go_enter Tryd.func71, Tryd.ntmps71
    go_wp2
    go_ret
    exact ⟨ret_bool HE.out, rfl⟩
  · have h2 : ¬ (p.size : Int) ≤ (s.size : Int) := by omega
    have hb2 : b = false := by rw [hb]; simp [h1]
    subst hb2
    clear hb
    go_enter Tryd.func71, Tryd.ntmps71
    go_wp2
    go_ret
    exact ⟨rfl, rfl⟩
/-- p is ahead in s. -/
def Ahead (s p : ByteArray) : Prop := p.size ≤ s.size ∧ s.extract 0 p.size = p
set_option maxHeartbeats 1000000 in
theorem slCutPrefix_yes (s p : ByteArray) (w : World) (hs : s.size ≤ 1000000000) (h : Ahead s p) : Calls Tryd.prog 59 #[.string s, .string p] w fun e w' => e = .returned (.tuple #[.string (s.extract p.size s.size), .bool true]) ∧ w' = w := by
  have hp : p.size ≤ s.size := h.1
  have hp2 : (p.size : Int) ≤ (s.size : Int) := by omega
  have H := Lib.hid (hasPrefix_any s p w hs (by omega) true (by simp [show p.size ≤ s.size ∧ s.extract 0 p.size = p from h]))
  clear h
  go_enter Tryd.func59, Tryd.ntmps59
  go_wp2_with (go_at_call 71; refine H.out.mono ?_; rintro e w' ⟨rfl, rfl⟩)
  go_ret2
  exact ⟨rfl, rfl⟩
set_option maxHeartbeats 1000000 in
theorem slCutPrefix_no (s p : ByteArray) (w : World) (hs : s.size ≤ 1000000000) (hp : p.size ≤ 1000000000) (h : ¬ Ahead s p) : Calls Tryd.prog 59 #[.string s, .string p] w fun e w' => e = .returned (.tuple #[.string s, .bool false]) ∧ w' = w := by
  have H := Lib.hid (hasPrefix_any s p w hs hp false (by simp only [show ¬ (p.size ≤ s.size ∧ s.extract 0 p.size = p) from h, decide_false]))
  clear h
  go_enter Tryd.func59, Tryd.ntmps59
  go_wp2_with (go_at_call 71; refine H.out.mono ?_; rintro e w' ⟨rfl, rfl⟩)
  go_ret2
  exact ⟨rfl, rfl⟩
set_option maxHeartbeats 1000000 in
theorem cutPrefix_yes (s p : ByteArray) (w : World) (hs : s.size ≤ 1000000000) (h : Ahead s p) : Calls Tryd.prog 46 #[.string s, .string p] w fun e w' => e = .returned (.tuple #[.string (s.extract p.size s.size), .bool true]) ∧ w' = w := by
  have H := Lib.hid (slCutPrefix_yes s p w hs h)
  clear h
  go_enter Tryd.func46, Tryd.ntmps46
  go_wp2_with (go_at_call 59; refine H.out.mono ?_; rintro e w' ⟨rfl, rfl⟩)
  go_ret2
  exact ⟨rfl, rfl⟩
set_option maxHeartbeats 1000000 in
theorem cutPrefix_no (s p : ByteArray) (w : World) (hs : s.size ≤ 1000000000) (hp : p.size ≤ 1000000000) (h : ¬ Ahead s p) : Calls Tryd.prog 46 #[.string s, .string p] w fun e w' => e = .returned (.tuple #[.string s, .bool false]) ∧ w' = w := by
  have H := Lib.hid (slCutPrefix_no s p w hs hp h)
  clear h
  go_enter Tryd.func46, Tryd.ntmps46
  go_wp2_with (go_at_call 59; refine H.out.mono ?_; rintro e w' ⟨rfl, rfl⟩)
  go_ret2
  exact ⟨rfl, rfl⟩
end Go.Proofs.YtefpigakhhfcaaaDoor
end
