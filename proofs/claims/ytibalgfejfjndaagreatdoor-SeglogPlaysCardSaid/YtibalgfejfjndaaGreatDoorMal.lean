import Derived.Test.YtibalgfejfjndaaGreatDoorMak
import Derived.Laws.Bits64
import Derived.Test.YtibalgfejfjndaaGreatDoorMaj
import Derived.Deep.QuietTactic
import Derived.BigQuiet
import Derived.Deep.Cut
import Derived.Deep.RegionHeld3
/-! strings.CutPrefix, strings.IndexByte among the digits. -/
section
set_option linter.unusedVariables false
set_option linter.unusedSimpArgs false
namespace Go.Proofs.YtibalgfejfjndaaGreatDoor
open Go.RowKit

def digitsB : ByteArray := ⟨#[48, 49, 50, 51, 52, 53, 54, 55, 56, 57, 97, 98, 99, 100, 101, 102]⟩
def digI (c : UInt8) : Int := match dig c with
  | none => -1
  | some d => d
theorem idx_dig (c : UInt8) : Lib.indexByte digitsB.data.toList c = digI c := by
  have : ∀ n : Fin 256, Lib.indexByte digitsB.data.toList (UInt8.ofNat n.val) = digI (UInt8.ofNat n.val) := by decide +kernel
  have h := this ⟨c.toNat, c.toNat_lt⟩
  simpa using h
set_option maxHeartbeats 1000000 in
theorem indexDigit_any (c : UInt8) (w : World) : Calls Tryz.prog 37 #[.string digitsB, .int .u8 (c.toNat : Nat)] w fun e w' => e = .returned (.int .i64 (digI c)) ∧ w' = w := by
  have H := Lib.hid (indexb_any digitsB (c.toNat : Nat) w)
  have hc : Lib.indexByte digitsB.data.toList ((c.toNat : Nat) : Int).toNat.toUInt8 = digI c := by rw [← idx_dig c]; simp
  rw [hc] at H
  clear hc
  go_enter Tryz.func37, Tryz.ntmps37
  go_wp2_with (go_at_call 63; refine H.out.mono ?_; rintro e w' ⟨rfl, rfl⟩)
  go_ret
  exact ⟨rfl, rfl⟩
set_option maxHeartbeats 1000000 in
theorem hasPrefix_any (s p : ByteArray) (w : World) (hs : s.size ≤ 1000000000) (hp : p.size ≤ 1000000000) (b : Bool) (hb : b = decide (p.size ≤ s.size ∧ s.extract 0 p.size = p)) :
    Calls Tryz.prog 81 #[.string s, .string p] w fun e w' => e = .returned (.bool b) ∧ w' = w := by
  by_cases h1 : p.size ≤ s.size
  · have h2 : (p.size : Int) ≤ (s.size : Int) := by omega
    have HE : Hid (((s.extract 0 p.size).toList == p.toList) = b) := Lib.hid (by
      rw [hb, Bool.eq_iff_iff, beq_iff_eq, decide_eq_true_iff, Lib.toList_data, Lib.toList_data]
      exact ⟨fun h => ⟨h1, ByteArray.ext (Array.toList_inj.1 h)⟩, fun h => by rw [h.2]⟩)
    clear hb
    go_enter Tryz.func81, Tryz.ntmps81
    go_wp2
    go_ret
    exact ⟨ret_bool HE.out, rfl⟩
  · have h2 : ¬ (p.size : Int) ≤ (s.size : Int) := by omega
    have hb2 : b = false := by rw [hb]; simp [h1]
    subst hb2
    clear hb
    go_enter Tryz.func81, Tryz.ntmps81
    go_wp2
    go_ret
    exact ⟨rfl, rfl⟩
/-- p is ahead in s. -/
def Ahead (s p : ByteArray) : Prop := p.size ≤ s.size ∧ s.extract 0 p.size = p
set_option maxHeartbeats 1000000 in
theorem slCutPrefix_yes (s p : ByteArray) (w : World) (hs : s.size ≤ 1000000000) (h : Ahead s p) : Calls Tryz.prog 62 #[.string s, .string p] w fun e w' => e = .returned (.tuple #[.string (s.extract p.size s.size), .bool true]) ∧ w' = w := by
  have hp : p.size ≤ s.size := h.1
  have hp2 : (p.size : Int) ≤ (s.size : Int) := by omega
  have H := Lib.hid (hasPrefix_any s p w hs (by omega) true (by simp [show p.size ≤ s.size ∧ s.extract 0 p.size = p from h]))
  clear h
  go_enter Tryz.func62, Tryz.ntmps62
  go_wp2_with (go_at_call 81; refine H.out.mono ?_; rintro e w' ⟨rfl, rfl⟩)
  go_ret2
  exact ⟨rfl, rfl⟩
set_option maxHeartbeats 1000000 in
theorem slCutPrefix_no (s p : ByteArray) (w : World) (hs : s.size ≤ 1000000000) (hp : p.size ≤ 1000000000) (h : ¬ Ahead s p) : Calls Tryz.prog 62 #[.string s, .string p] w fun e w' => e = .returned (.tuple #[.string s, .bool false]) ∧ w' = w := by
  have H := Lib.hid (hasPrefix_any s p w hs hp false (by simp only [show ¬ (p.size ≤ s.size ∧ s.extract 0 p.size = p) from h, decide_false]))
  clear h
  go_enter Tryz.func62, Tryz.ntmps62
  go_wp2_with (go_at_call 81; refine H.out.mono ?_; rintro e w' ⟨rfl, rfl⟩)
  go_ret2
  exact ⟨rfl, rfl⟩
set_option maxHeartbeats 1000000 in
theorem cutPrefix_yes (s p : ByteArray) (w : World) (hs : s.size ≤ 1000000000) (h : Ahead s p) : Calls Tryz.prog 36 #[.string s, .string p] w fun e w' => e = .returned (.tuple #[.string (s.extract p.size s.size), .bool true]) ∧ w' = w := by
  have H := Lib.hid (slCutPrefix_yes s p w hs h)
  clear h
  go_enter Tryz.func36, Tryz.ntmps36
  go_wp2_with (go_at_call 62; refine H.out.mono ?_; rintro e w' ⟨rfl, rfl⟩)
  go_ret2
  exact ⟨rfl, rfl⟩
set_option maxHeartbeats 1000000 in
theorem cutPrefix_no (s p : ByteArray) (w : World) (hs : s.size ≤ 1000000000) (hp : p.size ≤ 1000000000) (h : ¬ Ahead s p) : Calls Tryz.prog 36 #[.string s, .string p] w fun e w' => e = .returned (.tuple #[.string s, .bool false]) ∧ w' = w := by
  have H := Lib.hid (slCutPrefix_no s p w hs hp h)
  clear h
  go_enter Tryz.func36, Tryz.ntmps36
  go_wp2_with (go_at_call 62; refine H.out.mono ?_; rintro e w' ⟨rfl, rfl⟩)
  go_ret2
  exact ⟨rfl, rfl⟩
end Go.Proofs.YtibalgfejfjndaaGreatDoor
end

/-! seglog.firsts: the first offsets of the segments that lie there. -/
section
set_option linter.unusedVariables false
set_option linter.unusedSimpArgs false
namespace Go.Proofs.YtibalgfejfjndaaGreatDoor
open Go.RowKit Go.Sort
attribute [local go_sem] Oper.semAt_some

theorem infoU64 : (Tryz.prog.info? 27).map (fun i => (i.zero, i.size, i.bytes)) = some (some (.int .u64 0), 1, 8) := by kernel_rfl
def uV (v : Nat) : Value := .int .u64 (v : Nat)
theorem size_dotS (nm : ByteArray) : (nm ++ (⟨#[46, 115]⟩ : ByteArray)).size = nm.size + 2 := by rw [ByteArray.size_append]; rfl
theorem ahead_iff (nm : ByteArray) (x : List UInt8) : Ahead ⟨x.toArray⟩ (nm ++ ⟨#[46, 115]⟩) ↔ nm.data.toList ++ [46, 115] = x.take (nm.data.toList.length + 2) := by
  have h1 : (nm ++ (⟨#[46, 115]⟩ : ByteArray)).data.toList = nm.data.toList ++ [46, 115] := by simp
  have h2 : ((⟨x.toArray⟩ : ByteArray).extract 0 (nm ++ (⟨#[46, 115]⟩ : ByteArray)).size).data.toList = x.take (nm.data.toList.length + 2) := by
    rw [size_dotS, ByteArray.data_extract]
    simp
  have h3 : (⟨x.toArray⟩ : ByteArray).size = x.length := by show x.toArray.size = _; simp
  have h4 : nm.size = nm.data.toList.length := by rw [Array.length_toList]; rfl
  unfold Ahead
  constructor
  · rintro ⟨-, h⟩
    rw [← h1, ← h2, h]
  · intro h
    refine ⟨?_, ByteArray.ext (Array.toList_inj.1 (by rw [h2, h1, h]))⟩
    have := congrArg List.length h
    simp only [List.length_append, List.length_take, List.length_cons, List.length_nil] at this
    rw [size_dotS, h3]
    omega
theorem picks_none {nm x : List UInt8} {pre : List (List UInt8)} (h : unname nm x = none) : picks nm (pre ++ [x]) = picks nm pre := by simp [picks, h]
theorem picks_some {nm x : List UInt8} {pre : List (List UInt8)} {v : Nat} (h : unname nm x = some v) : picks nm (pre ++ [x]) = picks nm pre ++ [v] := by simp [picks, h]
theorem orAdd4 (x y z : Nat) (hz : z = y * 16) (hx : x < 16) (h : z + x < 18446744073709551616) : bits .or .u64 (z : Int) (x : Int) = ((z + x : Nat) : Int) := by
  have h1 : (BitVec.ofInt 64 (x : Int)).toNat = x := by
    rw [BitVec.ofInt_natCast, BitVec.toNat_ofNat]; exact Nat.mod_eq_of_lt (by omega)
  have h2 : (BitVec.ofInt 64 (z : Int)).toNat = z := by
    rw [BitVec.ofInt_natCast, BitVec.toNat_ofNat]; exact Nat.mod_eq_of_lt (by omega)
  have h3 : z ||| x = z + x := by
    subst hz
    have := Nat.two_pow_add_eq_or_of_lt (i := 4) (b := x) hx y
    rw [Nat.mul_comm y, show (16 : Nat) = 2 ^ 4 from rfl, ← this]
  show IntKind.u64.wrap ((BitVec.ofInt 64 (z : Int) ||| BitVec.ofInt 64 (x : Int)).toNat : Int) = _
  rw [BitVec.toNat_or, h1, h2, h3, IntKind.wrap_u64]
  omega
theorem valL_take {l : List UInt8} {j z : Nat} {c : UInt8} (h : valL 0 (l.take j) = some z) (hc : l[j]? = some c) : valL 0 (l.take (j + 1)) = match dig c with
    | none => none
    | some d => some (z * 16 + d) := by
  rw [List.take_add_one, hc, Option.toList_some, valL_append, h]
  simp only [Option.bind_some, valL]
  cases dig c <;> rfl
theorem valL_none {l : List UInt8} {j : Nat} (h : valL 0 (l.take j) = none) : valL 0 l = none := by
  have : l = l.take j ++ l.drop j := (List.take_append_drop j l).symm
  rw [this, valL_append, h]
  rfl
/-- What is held from round to round. -/
structure FrI (nm : ByteArray) (w W : World) (O D : Nat) (fs : List Nat) : Prop where
  b0 : Boxed W O 9 (.string nm)
  b1 : ∃ v, Boxed W (O + 1) 51 v ∧ W.ownsRow (D + 2) 27 1 v fs.length (fs.map uV)
  kept : Kept (fun _ => False) w W
theorem FrI.carry {nm : ByteArray} {w W W' : World} {O D : Nat} {fs : List Nat} (h : FrI nm w W O D fs) (hk : Kept (fun k => False ∨ k = D ∨ k = D + 1) W W') (hO : O = w.heap.size) (hD : O + 2 ≤ D) : FrI nm w W' O D fs := by
  have no : ∀ k, k < D → ¬ (False ∨ k = D ∨ k = D + 1) := by rintro k hk (h | h | h) <;> first | exact h.elim | omega
  obtain ⟨v, hv, ho⟩ := h.b1
  refine ⟨hk.heap h.b0 (no _ (by omega)), ⟨v, hk.heap hv (no _ (by omega)), own_kept ho hk fun k e => ?_⟩, h.kept.trans hk fun i hi hm => absurd hm (no i (by omega))⟩
  have := own_ge ho k e
  rintro (h | h | h) <;> first | exact h.elim | omega
def FirstsPost (w : World) (fs : List Nat) (e : Ending) (w' : World) : Prop := ∃ v, e = .returned v ∧ w'.ownsRow w.heap.size 27 1 v fs.length (fs.map uV) ∧ Kept (fun _ => False) w w'
set_option maxRecDepth 100000 in
set_option maxHeartbeats 4000000 in
theorem slFirsts_any (w : World) (F M : Nat) (ps : List PF) (clock : Nat) (lim arm : Int) (dn : Bool) (nm : ByteArray) (h : FilesAt w F M ps clock lim arm dn) (hn : ps.length ≤ 100000) (hm : ∀ p ∈ ps, p.name.size ≤ 1000000) (hnm : nm.size ≤ 1000000) :
    Calls Tryz.prog 12 #[.pointer (some ⟨F, 0, none⟩), .string nm] w (FirstsPost w (picks nm.data.toList (sortN ps))) := by
  refine calls_of_marks Tryz.func12 rfl ?_
  simp only [Tryz.ntmps12, List.size_toArray, List.length_cons, List.length_nil, Nat.reduceAdd, Nat.reduceSub, Array.replicate_succ, Array.replicate_zero, List.push_toArray, List.append_toArray, List.nil_append, List.cons_append]
  obtain ⟨i0, hi, hz0, hz1, hz2⟩ := info_parts infoU64
  obtain ⟨W1, hW1⟩ : ∃ W1, W1 = (w.alloc (.cells #[.string nm] 9)).alloc (.cells #[.slice none 0 0] 51) := ⟨_, rfl⟩
  obtain ⟨O, hO⟩ : ∃ O, O = w.heap.size := ⟨_, rfl⟩
  have hk1 : Kept (fun _ => False) w W1 := by rw [hW1]; exact ((Kept.refl _ w).alloc _).alloc _
  have hb0 : Boxed W1 O 9 (.string nm) := by rw [hW1, hO]; exact (Boxed.new w _ _).alloc _
  have hb1 : Boxed W1 (O + 1) 51 (.slice none 0 0) := by
    have := Boxed.new (w.alloc (.cells #[.string nm] 9)) 51 (.slice none 0 0)
    rw [hW1, hO]; simpa using this
  have hsz1 : W1.heap.size = O + 2 := by rw [hW1, hO]; simp
  have HLi := Lib.hid (list_any W1 F M ps clock lim arm dn (h.kept hk1 (by simp)) (by omega) hm)
  have HW1 := Lib.hid hW1
  have HO := Lib.hid hO
  have Hk1 := Lib.hid hk1
  have Hb0 := Lib.hid hb0
  have Hb1 := Lib.hid hb1
  have Hsz1 := Lib.hid hsz1
  have Hn := Lib.hid hn
  have HM := Lib.hid hm
  clear hW1 hO hk1 hb0 hb1 hsz1 h hm hn
  go_wp2_with fail
  go_step3
  go_wp2_with fail
  go_step3
  rw [← HW1.out, ← HO.out]
  go_wp2_with (go_at_call 35; refine HLi.out.mono ?_; rintro e W2 ⟨B0, A0, c0, rfl, hB0, hSs, hA0, hBl, hk2⟩; have HB0 := Lib.hid hB0; have HSs := Lib.hid hSs; have HA0 := Lib.hid hA0; have HBl := Lib.hid hBl; have HK2 := Lib.hid hk2; clear hB0 hSs hA0 hBl hk2)
  obtain ⟨L, hL⟩ : ∃ L, L = sortN ps := ⟨_, rfl⟩
  have hLn : L.length ≤ 100000 := by
    rw [hL]
    have := (sortN_perm ps).length_eq
    simp only [namesL, List.length_map] at this
    have := Hn.out
    omega
  have hLm : ∀ x ∈ L, x.length ≤ 1000000 := fun x hx => by
    rw [hL] at hx
    have := (sortN_perm ps).mem_iff.1 hx
    obtain ⟨p, hp, rfl⟩ := List.mem_map.1 this
    have := HM.out p hp
    rw [Array.length_toList]; exact this
  rw [← hL] at HB0 HSs ⊢
  have HLn := Lib.hid hLn
  have HLm := Lib.hid hLm
  have hit := values_iter B0 L.length c0 A0 L W2 HB0.out rfl (by omega) HSs.out (fun ad e => (HA0.out ad e).2)
  have hfr : FrI nm w W2 O W2.heap.size [] := ⟨HK2.out.heap Hb0.out (by simp), ⟨_, HK2.out.heap Hb1.out (by simp), World.ownsRow_nil _ _ _ _⟩, Hk1.out.trans' HK2.out⟩
  have hsz2 : O + 2 ≤ W2.heap.size := by have := Hsz1.out; have := HK2.out.size; omega
  have HSz2 := Lib.hid hsz2
  have HL := Lib.hid hL
  clear hL hLn hLm HLi HW1
  refine wp_range (gf := 78) rfl (enters_of Tryz.func78 (by kernel_rfl) rfl) hit (fun x => rfl) (fun k h => h.elim) (fun k ⟨ad, e, e2⟩ => by rw [← e2]; exact (HA0.out ad e).2)
    (fun pre W => FrI nm w W O W2.heap.size (picks nm.data.toList pre))
    (fun c pre W => False)
    (fun pre A C h hk => h.carry hk HO.out HSz2.out)
    (fun c pre A C h hk => h.elim) hfr (fun x => { tmps := #[.pointer (some ⟨F, 0, none⟩), .string nm, undef, .pointer (some ⟨O, 0, none⟩), .slice none 0 0, .pointer (some ⟨O + 1, 0, none⟩), .string ⟨x.toArray⟩, undef, undef, undef, undef, undef, .pointer (some ⟨F, 0, none⟩), .func (.func 78) #[] #[.pointer (some ⟨B0, 0, none⟩)], .string ⟨x.toArray⟩, undef, undef, undef, undef, undef, undef, undef, undef, undef, undef, undef, undef, undef, undef, undef, undef, undef, undef, undef, undef, undef, undef, undef, undef, undef, undef, undef, undef, undef, undef, undef, undef, undef, undef, undef, undef], defers := [] }) ?assign ?body ?done ?stop
  case assign =>
    intro l x W K hK
    gi_wp2
    exact hK
  case body =>
    rintro l pre x post W hxs hI hsz2
    have hxm : x ∈ L := by rw [hxs]; simp
    have hxl := HLm.out x hxm
    have hb0 := hI.b0.cell
    have hs3 : ¬ 9223372036854775807 < nm.size + 2 := by omega
    have hsx : (⟨x.toArray⟩ : ByteArray).size = x.length := by show x.toArray.size = _; simp
    have HI := Lib.hid hI
    have HSz := Lib.hid hsz2
    have HXs := Lib.hid hxs
    clear hI hsz2 hit hfr hxm
    by_cases ha : nm.data.toList ++ [46, 115] = x.take (nm.data.toList.length + 2)
    rotate_left
    · have hun : picks nm.data.toList (pre ++ [x]) = picks nm.data.toList pre := picks_none (if_neg fun h => ha h.1)
      have HC := Lib.hid (cutPrefix_no ⟨x.toArray⟩ (nm ++ ⟨#[46, 115]⟩) W (by rw [hsx]; omega) (by rw [size_dotS]; omega) (by rw [ahead_iff]; exact ha))
      have Hun := Lib.hid hun
      clear ha hun hsx
      gi_wp2_with ((refine ⟨trivial, ?_⟩; gi_at_call 36; refine (CallsIn.inRound l (callsIn_wide.2 HC.out)).mono ?_; rintro e w9 ⟨rfl, rfl⟩))
      exact ⟨⟨Nat.le_refl _, fun k hk => rfl⟩, by show FrI nm w _ O W2.heap.size (picks nm.data.toList (pre ++ [x])); rw [Hun.out]; exact HI.out⟩
    obtain ⟨R, hR⟩ : ∃ R, R = (⟨x.toArray⟩ : ByteArray).extract (nm ++ (⟨#[46, 115]⟩ : ByteArray)).size (⟨x.toArray⟩ : ByteArray).size := ⟨_, rfl⟩
    have hRl : R.data.toList = x.drop (nm.data.toList.length + 2) := by
      rw [hR, size_dotS, hsx, ByteArray.data_extract]
      simp only [Array.toList_extract, List.extract_eq_take_drop, Array.length_toList]
      exact List.take_of_length_le (by simp)
    have hRz : R.size = x.length - (nm.size + 2) := by
      have h1 : R.size = R.data.toList.length := by rw [Array.length_toList]; rfl
      rw [h1, hRl, List.length_drop]
      rfl
    have hC := cutPrefix_yes ⟨x.toArray⟩ (nm ++ ⟨#[46, 115]⟩) W (by rw [hsx]; omega) (by rw [ahead_iff]; exact ha)
    rw [← hR] at hC
    have HC := Lib.hid hC
    have HRl := Lib.hid hRl
    have hxn : nm.size + 2 ≤ x.length := by
      have := congrArg List.length ha
      simp only [List.length_append, List.length_take, List.length_cons, List.length_nil] at this
      have h4 : nm.size = nm.data.toList.length := by rw [Array.length_toList]; rfl
      omega
    have Ha := Lib.hid ha
    clear hC hR hRl hsx ha
    by_cases h16 : R.size = 16
    rotate_left
    · have h16' : ¬ ((R.size : Nat) : Int) = 16 := by omega
      have hun : picks nm.data.toList (pre ++ [x]) = picks nm.data.toList pre := picks_none (if_neg fun h => by
        have h4 : nm.size = nm.data.toList.length := by rw [Array.length_toList]; rfl
        have := h.2; omega)
      have Hun := Lib.hid hun
      clear hun hRz hxn h16
      gi_wp2_with ((refine ⟨trivial, ?_⟩; gi_at_call 36; refine (CallsIn.inRound l (callsIn_wide.2 HC.out)).mono ?_; rintro e w9 ⟨rfl, rfl⟩))
      exact ⟨⟨Nat.le_refl _, fun k hk => rfl⟩, by show FrI nm w _ O W2.heap.size (picks nm.data.toList (pre ++ [x])); rw [Hun.out]; exact HI.out⟩
    clear hRz
    have hlen : x.length = nm.data.toList.length + 18 := by
      have h1 : R.size = R.data.toList.length := by rw [Array.length_toList]; rfl
      have h2 := congrArg List.length HRl.out
      rw [List.length_drop] at h2
      have h4 : nm.size = nm.data.toList.length := by rw [Array.length_toList]; rfl
      omega
    have HLen := Lib.hid hlen
    clear hlen hxn
    gi_wp2_with ((refine ⟨trivial, ?_⟩; gi_at_call 36; refine (CallsIn.inRound l (callsIn_wide.2 HC.out)).mono ?_; rintro e w9 ⟨rfl, rfl⟩))
    gi_loopw [9, 10, 11, 31] (fun u _ _ i wr => ∃ j z : Nat, i = .int .i64 j ∧ u = .int .u64 z ∧ j ≤ 16 ∧ Hid (valL 0 (R.data.toList.take j) = some z ∧ z < 16 ^ j) ∧ wr = w9) (fun _ _ _ i _ => 16 - iNat i)
    case atStart => exact ⟨0, 0, rfl, rfl, by omega, Lib.hid ⟨rfl, by decide⟩, rfl⟩
    case round =>
      obtain ⟨j, z, rfl, rfl, hj, hz, rfl⟩ := hrel
      by_cases hlt : j < 16
      · have hj9 : (j : Int) < 16 := by omega
        have hjR : j < R.size := by omega
        obtain ⟨c, hc⟩ : ∃ c : UInt8, c = R[j]'hjR := ⟨_, rfl⟩
        have hc2 : R.data.toList[j]? = some c := by rw [Lib.data_getElem? R j hjR, hc]
        have hI2 : ∀ W, Calls Tryz.prog 37 #[.string ⟨#[48, 49, 50, 51, 52, 53, 54, 55, 56, 57, 97, 98, 99, 100, 101, 102]⟩, .int .u8 ((R[j]'hjR).toNat : Nat)] W fun e w' => e = .returned (.int .i64 (digI c)) ∧ w' = W := fun W => by rw [← hc]; exact indexDigit_any c W
        have hz15 : z < 1152921504606846976 := Nat.lt_of_lt_of_le hz.out.2 (Nat.le_trans (Nat.pow_le_pow_right (by decide) (show j ≤ 15 by omega)) (by decide))
        have HV := Lib.hid (valL_take hz.out.1 hc2)
        clear hc hc2
        cases hd : dig c with
        | none =>
          have hdi : digI c = -1 := by unfold digI; rw [hd]
          rw [hdi] at hI2
          have HI2 := Lib.hid hI2
          rw [hd] at HV
          have hun : picks nm.data.toList (pre ++ [x]) = picks nm.data.toList pre := picks_none (by
            unfold unname
            rw [if_pos ⟨Ha.out, HLen.out⟩, ← HRl.out]
            exact valL_none HV.out)
          have Hun := Lib.hid hun
          clear hun hd hdi hI2 HV hz15
          gi_wp2_with ((refine ⟨trivial, ?_⟩; gi_at_call 37; refine (CallsIn.inRound l (callsIn_wide.2 (HI2.out _))).mono ?_; rintro e w8 ⟨rfl, rfl⟩))
          exact ⟨⟨Nat.le_refl _, fun k hk => rfl⟩, by show FrI nm w _ O W2.heap.size (picks nm.data.toList (pre ++ [x])); rw [Hun.out]; exact HI.out⟩
        | some d =>
          have hdi : digI c = d := by unfold digI; rw [hd]
          rw [hdi] at hI2
          have HI2 := Lib.hid hI2
          rw [hd] at HV
          have hd16 := dig_lt hd
          obtain ⟨z2, hz2⟩ : ∃ z2, z2 = z * 16 := ⟨_, rfl⟩
          have hsh : Op.shift .shl .u64 (z : Int) .u64 (4 : Int) = pure (.int .u64 (z2 : Nat)) := by
            rw [shift_shl_any _ _ _ _ (by omega)]
            have h9 : ((z : Int)) * 2 ^ min ((4 : Int)).toNat 64 = (z2 : Int) := by rw [show min ((4 : Int)).toNat 64 = 4 from rfl, hz2]; omega
            rw [show IntKind.u64.bits = 64 from rfl, h9, IntKind.wrap_u64]
            congr 2
            omega
          obtain ⟨y, hy⟩ : ∃ y, y = z2 + d := ⟨_, rfl⟩
          have hor : bits .or .u64 (z2 : Int) (d : Int) = (y : Int) := by
            rw [orAdd4 d z z2 hz2 hd16 (by omega), hy]
          have hwd : IntKind.u64.wrap (d : Int) = (d : Int) := by rw [IntKind.wrap_u64]; omega
          have HY : Hid (valL 0 (R.data.toList.take (j + 1)) = some y ∧ y < 16 ^ (j + 1)) := Lib.hid ⟨by rw [HV.out, hy, hz2], by have := hz.out.2; rw [Nat.pow_succ]; omega⟩
          have hd0 : ¬ (d : Int) < 0 := by omega
          clear hd hdi hI2 HV hz15 hz2 hy hd16
          gi_wp2_with ((refine ⟨trivial, ?_⟩; gi_at_call 37; refine (CallsIn.inRound l (callsIn_wide.2 (HI2.out _))).mono ?_; rintro e w8 ⟨rfl, rfl⟩))
          go_roundw
          case rel => exact ⟨j + 1, y, by go_num, rfl, by omega, HY, trivial⟩
          case measure => simp only [iNat]; omega
      · obtain rfl : j = 16 := by omega
        have hj9 : ¬ ((16 : Nat) : Int) < 16 := by omega
        have hun : unname nm.data.toList x = some z := by
          unfold unname
          rw [if_pos ⟨Ha.out, HLen.out⟩, ← HRl.out]
          have h1 := hz.out.1
          rwa [List.take_of_length_le (by have h2 : R.size = R.data.toList.length := by rw [Array.length_toList]; rfl
                                          omega)] at h1
        have Hun := Lib.hid (picks_some (pre := pre) hun)
        obtain ⟨fs, hfs⟩ : ∃ fs, fs = picks nm.data.toList pre := ⟨_, rfl⟩
        rw [← hfs] at HI Hun
        have hfl : fs.length ≤ 100000 := by
          rw [hfs]
          have h1 : (picks nm.data.toList pre).length ≤ pre.length := by unfold picks; exact List.length_filterMap_le _ _
          have h2 := congrArg List.length HXs.out
          simp at h2
          have := HLn.out
          omega
        obtain ⟨v, hv, ho⟩ := HI.out.b1
        obtain ⟨k, hk⟩ : ∃ k, k = fs.length := ⟨_, rfl⟩
        rw [← hk] at ho hfl
        have c1 := hv.cell
        have f1 := hv.frozen
        have HV := Lib.hid hv
        have HO2 := Lib.hid ho
        have Hk := Lib.hid hk
        have hge : ∀ q, v.ownBlock = some q → W2.heap.size + 2 ≤ q := own_ge ho
        have HGe := Lib.hid hge
        have Hfl := Lib.hid hfl
        clear hun hfs hfl hv ho hk hge
        gi_wp2_with (gi_at_builtin; refine wpListIn_append_own _ rfl _ _ 51 rfl (W2.heap.size + 2) 27 i0 (.int .u64 0) 1 8 Tryz.underlying51 hi hz0 hz1 hz2 rfl (by decide) _ k _ rfl (own_kept HO2.out ((Kept.refl (fun _ => False) wr).alloc _) (by simp)) _ 1 1 [.int .u64 (z : Nat)] rfl rfl ((cs_new wr [.int .u64 (z : Nat)] 27).2 _ rfl) (by simp [Value.oneCell']) (by have := Hfl.out; unfold maxLen; omega) (by have := Hfl.out; omega) (by have := HSz.out; simp; omega) ?_; intro v' w1 hown hgrow hnil; obtain ⟨A', c', rfl⟩ := own_slice hown; have HN := Lib.hid hown; have HK1 : Hid (Kept (fun q => v.ownBlock = some q) wr w1) := Lib.hid ((((Kept.refl (fun q => v.ownBlock = some q) wr).alloc _)).grown hgrow (fun q e _ => e)); have HB1 : Hid (Boxed w1 (O + 1) 51 _) := Lib.hid (HK1.out.heap HV.out (fun e => by have := HGe.out _ e; have := HSz2.out; omega)); have g1 := Boxed.cell HB1.out; have fz1 := Boxed.frozen HB1.out; clear hown hgrow hnil)
        have hk3 := kF w1 (O + 1) 0 (.slice A' (k + 1) c')
        have hkk : Kept (fun q => v.ownBlock = some q ∨ q = O + 1) wr (w1.setCell ⟨O + 1, 0, none⟩ (.slice A' (k + 1) c')) := (HK1.out.mono fun q _ e => .inl e).trans' (hk3.mono fun q _ e => .inr e)
        have hz2 := HSz2.out
        have hz1 := HSz.out
        have no : ∀ q, q < O + 1 → ¬ (v.ownBlock = some q ∨ q = O + 1) := fun q hq h => h.elim (fun e => by have := HGe.out _ e; omega) (fun e => by omega)
        refine ⟨⟨hkk.size, fun q hq => ?_⟩, ?_⟩
        · have hq3 : ¬ (v.ownBlock = some q ∨ q = O + 1) := fun h => by
            rcases h with h | h
            · have h1 := HGe.out _ h
              rcases hq with ⟨ad, e, e2⟩ | hq | hq
              · have := (HA0.out ad e).2; omega
              · omega
              · omega
            · rcases hq with ⟨ad, e, e2⟩ | hq | hq
              · have := (HA0.out ad e).1; have := Hsz1.out; omega
              · omega
              · omega
          refine hkk.block q ?_ hq3
          rcases hq with ⟨ad, e, e2⟩ | hq | hq
          · have := (HA0.out ad e).2; omega
          · omega
          · omega
        · show FrI nm w _ O W2.heap.size (picks nm.data.toList (pre ++ [x]))
          rw [Hun.out]
          refine ⟨hkk.heap HI.out.b0 (no _ (by omega)), ⟨_, HB1.out.set _, ?_⟩, HI.out.kept.trans hkk fun q hq h => absurd h (no q (by have := HO.out; omega))⟩
          have h3 := HN.out
          rw [Hk.out, show [Value.int .u64 (z : Nat)] = [z].map uV from rfl, ← List.map_append] at h3
          rw [List.length_append, List.length_singleton]
          rw [← Hk.out] at h3 ⊢
          refine own_kept h3 hk3 fun q e e2 => ?_
          have := own_ge h3 q e
          omega
  case done =>
    rintro W hI hD
    obtain ⟨v, hv, ho⟩ := hI.b1
    obtain ⟨Av, cv, rfl⟩ := own_slice ho
    have c1 := hv.cell
    have HD := Lib.hid hD
    have HI := Lib.hid hI
    have HO2 := Lib.hid ho
    clear hI hv ho hD hit hfr
    go_wp2
    rw [Exit.noGoto_ret]
    have hz2 := HSz2.out
    have hge := own_ge HO2.out
    have ho := HO.out
    obtain rfl := HL.out
    refine leave_mark HD.out (v := .slice Av (picks nm.data.toList (sortN ps)).length cv) (show _ = Result.ok _ _ from results_tmp (t := 4) rfl _ _ _) ⟨_, rfl, ?_, ?_⟩
    · exact own_weak (b := W2.heap.size + 2) (by omega) (own_kept HO2.out (putObj_kept W W2.heap.size (.deferred none)) fun q e e2 => by have := hge q e; omega)
    · exact HI.out.kept.trans (putObj_kept W W2.heap.size (.deferred none)) fun i hi e => by omega
  case stop =>
    rintro c pre W hpre h
    exact h.elim
end Go.Proofs.YtibalgfejfjndaaGreatDoor
end

/-! segment.places, Scan: the records that stand one behind the other. -/
section
set_option linter.unusedVariables false
set_option linter.unusedSimpArgs false
namespace Go.Proofs.YtibalgfejfjndaaGreatDoor
open Go.RowKit

theorem infoPl : (Tryz.prog.info? 94).map (fun i => (i.zero, i.size, i.bytes)) = some (some (.agg #[.int .u64 0, .slice none 0 0, .int .i64 0]), 3, 40) := by kernel_rfl
theorem elemPl : ElemT 90 94 3 40 := ElemT.of Tryz.underlying90 infoPl (by kernel_rfl) (by decide) (by decide)
theorem infoRc : (Tryz.prog.info? 63).map (fun i => (i.zero, i.size, i.bytes)) = some (some (.agg #[.int .u64 0, .slice none 0 0]), 2, 32) := by kernel_rfl
theorem elemRc : ElemT 55 63 2 32 := ElemT.of Tryz.underlying55 infoRc (by kernel_rfl) (by decide) (by decide)
def cellsPl : Nat → Nat → List BV → List Value
  | _, _, [] => []
  | n, a, r :: rs => .int .u64 (n : Nat) :: r.val :: .int .i64 (a : Nat) :: cellsPl (n + 1) (a + (16 + r.b.length)) rs
def cellsRc : Nat → List BV → List Value
  | _, [] => []
  | n, r :: rs => .int .u64 (n : Nat) :: r.val :: cellsRc (n + 1) rs
theorem cellsPl_len (n a : Nat) (rs : List BV) : (cellsPl n a rs).length = rs.length * 3 := by
  induction rs generalizing n a with
  | nil => rfl
  | cons r rs ih => simp only [cellsPl, List.length_cons, ih]; omega
theorem cellsRc_len (n : Nat) (rs : List BV) : (cellsRc n rs).length = rs.length * 2 := by
  induction rs generalizing n with
  | nil => rfl
  | cons r rs ih => simp only [cellsRc, List.length_cons, ih]; omega
theorem cellsPl_snoc (n a : Nat) (rs : List BV) (r : BV) : cellsPl n a (rs ++ [r]) = cellsPl n a rs ++ [.int .u64 ((n + rs.length : Nat) : Int), r.val, .int .i64 ((a + sumR (rs.map BV.b) : Nat) : Int)] := by
  induction rs generalizing n a with
  | nil => simp [cellsPl, sumR]
  | cons q rs ih =>
    simp only [List.cons_append, cellsPl, ih, List.length_cons, List.map_cons, sumR, List.sum_cons]
    rw [show n + 1 + rs.length = n + (rs.length + 1) by omega, show a + (16 + q.b.length) + (List.map (fun b : List UInt8 => 16 + b.length) (List.map BV.b rs)).sum = a + (16 + q.b.length + (List.map (fun b : List UInt8 => 16 + b.length) (List.map BV.b rs)).sum) by omega]
theorem cellsRc_snoc (n : Nat) (rs : List BV) (r : BV) : cellsRc n (rs ++ [r]) = cellsRc n rs ++ [.int .u64 ((n + rs.length : Nat) : Int), r.val] := by
  induction rs generalizing n with
  | nil => simp [cellsRc]
  | cons q rs ih =>
    simp only [List.cons_append, cellsRc, ih, List.length_cons]
    rw [show n + 1 + rs.length = n + (rs.length + 1) by omega]
theorem cellsPl_at (n a : Nat) (rs : List BV) (k : Nat) (r : BV) (h : rs[k]? = some r) : (cellsPl n a rs)[k * 3]? = some (.int .u64 ((n + k : Nat) : Int)) ∧ (cellsPl n a rs)[k * 3 + 1]? = some r.val ∧ ∃ z : Nat, (cellsPl n a rs)[k * 3 + 2]? = some (.int .i64 (z : Nat)) := by
  induction rs generalizing n a k with
  | nil => simp at h
  | cons q rs ih =>
    cases k with
    | zero => simp at h; subst h; exact ⟨by simp [cellsPl], by simp [cellsPl], a, by simp [cellsPl]⟩
    | succ k =>
      have := ih (n + 1) (a + (16 + q.b.length)) k (by simpa using h)
      rw [show n + 1 + k = n + (k + 1) by omega] at this
      simp only [cellsPl, show (k + 1) * 3 = k * 3 + 1 + 1 + 1 by omega, List.getElem?_cons_succ, show k * 3 + 1 + 1 + 1 + 1 = k * 3 + 1 + 1 + 1 + 1 from rfl]
      exact this
theorem cellsRc_at (n : Nat) (rs : List BV) (k : Nat) (r : BV) (h : rs[k]? = some r) : (cellsRc n rs)[k * 2]? = some (.int .u64 ((n + k : Nat) : Int)) ∧ (cellsRc n rs)[k * 2 + 1]? = some r.val := by
  induction rs generalizing n k with
  | nil => simp at h
  | cons q rs ih =>
    cases k with
    | zero => simp at h; subst h; simp [cellsRc]
    | succ k =>
      have := ih (n + 1) k (by simpa using h)
      rw [show n + 1 + k = n + (k + 1) by omega] at this
      simp only [cellsRc, show (k + 1) * 2 = k * 2 + 1 + 1 by omega, List.getElem?_cons_succ]
      exact this
/-- Places of the call's own, with bytes of their own. -/
structure OwnPl (w W : World) (first : Nat) (v : Value) (rs : List BV) : Prop where
  row : W.ownsRow w.heap.size 94 3 v rs.length (cellsPl first 0 rs)
  own : ∀ r ∈ rs, W.ownsRow w.heap.size 5 1 r.val r.b.length (r.b.map bv)
  kept : Kept (fun _ => False) w W
/-- Records likewise. -/
structure OwnRc (w W : World) (first : Nat) (v : Value) (rs : List BV) : Prop where
  row : W.ownsRow w.heap.size 63 2 v rs.length (cellsRc first rs)
  own : ∀ r ∈ rs, W.ownsRow w.heap.size 5 1 r.val r.b.length (r.b.map bv)
  kept : Kept (fun _ => False) w W
/-- A block of bytes is none of another kind's. -/
theorem own_other {W : World} {e1 b1 b2 s1 s2 n m : Nat} {v u : Value} {xs ys : List Value} (he : e1 ≠ 5) (h1 : W.ownsRow b1 e1 s1 v n xs) (h2 : W.ownsRow b2 5 s2 u m ys) : ∀ k, u.ownBlock = some k → v.ownBlock ≠ some k := by
  intro k e e2
  rcases h1.2 with ⟨hv, _⟩ | ⟨g, _, _, hv, _, hh, _⟩
  · rw [hv] at e2; cases e2
  · rcases h2.2 with ⟨hu, _⟩ | ⟨g', _, _, hu, _, hh', _⟩
    · rw [hu] at e; cases e
    · have hg : g = k := by rw [hv] at e2; simpa [Value.ownBlock] using e2
      have hg' : g' = k := by rw [hu] at e; simpa [Value.ownBlock] using e
      subst hg; subst hg'
      rw [hh] at hh'
      simp only [Option.some.injEq, Obj.cells.injEq] at hh'
      exact he hh'.2.1
section
variable {w W W' : World} {first : Nat} {v v' : Value} {rs : List BV}
theorem OwnPl.stay (h : OwnPl w W first v rs) (hk : Kept (fun _ => False) W W') : OwnPl w W' first v rs := ⟨own_kept h.row hk (by simp), fun q hq => own_kept (h.own q hq) hk (by simp), h.kept.trans' hk⟩
theorem OwnRc.stay (h : OwnRc w W first v rs) (hk : Kept (fun _ => False) W W') : OwnRc w W' first v rs := ⟨own_kept h.row hk (by simp), fun q hq => own_kept (h.own q hq) hk (by simp), h.kept.trans' hk⟩
theorem OwnPl.grow {r : BV} {at_ : Nat} (h : OwnPl w W first v rs) (ho : W'.ownsRow w.heap.size 94 3 v' (rs.length + 1) (cellsPl first 0 rs ++ [.int .u64 ((first + rs.length : Nat) : Int), r.val, .int .i64 (at_ : Nat)])) (hg : Grew W W' v v') (ha : at_ = sumR (rs.map BV.b)) (hr : W.ownsRow w.heap.size 5 1 r.val r.b.length (r.b.map bv)) : OwnPl w W' first v' (rs ++ [r]) := by
  have hK := hg.kept
  refine ⟨by rw [List.length_append, List.length_singleton, cellsPl_snoc, Nat.zero_add, ← ha]; exact ho, fun q hq => ?_, h.kept.trans hK fun k hk e => by have := own_ge h.row k e; omega⟩
  rcases List.mem_append.1 hq with hq | hq
  · exact own_kept (h.own q hq) hK fun k e => own_other (by decide) h.row (h.own q hq) k e
  · simp only [List.mem_singleton] at hq
    subst hq
    exact own_kept hr hK fun k e => own_other (by decide) h.row hr k e
theorem OwnRc.grow {r : BV} (h : OwnRc w W first v rs) (ho : W'.ownsRow w.heap.size 63 2 v' (rs.length + 1) (cellsRc first rs ++ [.int .u64 ((first + rs.length : Nat) : Int), r.val])) (hg : Grew W W' v v') (hr : W.ownsRow w.heap.size 5 1 r.val r.b.length (r.b.map bv)) : OwnRc w W' first v' (rs ++ [r]) := by
  have hK := hg.kept
  refine ⟨by rw [List.length_append, List.length_singleton, cellsRc_snoc]; exact ho, fun q hq => ?_, h.kept.trans hK fun k hk e => by have := own_ge h.row k e; omega⟩
  rcases List.mem_append.1 hq with hq | hq
  · exact own_kept (h.own q hq) hK fun k e => own_other (by decide) h.row (h.own q hq) k e
  · simp only [List.mem_singleton] at hq
    subst hq
    exact own_kept hr hK fun k e => own_other (by decide) h.row hr k e
end
end Go.Proofs.YtibalgfejfjndaaGreatDoor
end

/-! segment.places, walked. -/
section
set_option linter.unusedVariables false
set_option linter.unusedSimpArgs false
namespace Go.Proofs.YtibalgfejfjndaaGreatDoor
open Go.RowKit

theorem frsL_at {f : Nat} {l : List (List UInt8)} {tail : List UInt8} {j : Nat} {d : List UInt8} (h : l[j]? = some d) :
    (frsL f l ++ tail).drop (frsL f (l.take j)).length = frameB (f + j) d ++ (frsL (f + j + 1) (l.drop (j + 1)) ++ tail) ∧ (frsL f (l.take (j + 1))).length = (frsL f (l.take j)).length + (16 + d.length) := by
  have hj := (List.getElem?_eq_some_iff.1 h).1
  have e1 : l = l.take j ++ d :: l.drop (j + 1) := by
    rw [← (List.getElem?_eq_some_iff.1 h).2, ← List.drop_eq_getElem_cons hj, List.take_append_drop]
  have e2 : (l.take j).length = j := by rw [List.length_take]; omega
  constructor
  · have e3 : frsL f l = frsL f (l.take j) ++ (frameB (f + j) d ++ frsL (f + j + 1) (l.drop (j + 1))) := by
      conv => lhs; rw [e1]
      rw [frsL_append, e2]
      simp only [frsL]
    rw [e3, List.append_assoc, List.drop_left, List.append_assoc]
  · rw [List.take_add_one, h, Option.toList_some, frsL_append, e2, List.length_append]
    simp only [frsL, List.append_nil, frameB_len]
    omega
theorem sumR_le (f : Nat) (l : List (List UInt8)) : l.length * 16 ≤ (frsL f l).length := by
  rw [frsN_len]
  induction l with
  | nil => simp [sumR]
  | cons b l ih => simp only [sumR, List.map_cons, List.sum_cons, List.length_cons] at *; omega
def PlacesPost (w : World) (first : Nat) (l : List (List UInt8)) (e : Ending) (w' : World) : Prop :=
  ∃ v rs, e = .returned (.tuple #[v, .int .i64 ((frsL first l).length : Nat)]) ∧ rs.map BV.b = l ∧ OwnPl w w' first v rs
set_option maxRecDepth 100000 in
set_option maxHeartbeats 8000000 in
theorem places_any (w : World) (A : Option Addr) (n c first : Nat) (b t : List UInt8) (l : List (List UInt8)) (hn : n = b.length) (hc : n ≤ c) (hA : A = none → c = 0) (hb : Bs w A b) (hn9 : n ≤ 5000000)
    (hp : b = frsL first l ++ t) (ht : PartF (first + l.length) t) (hl : ∀ x ∈ l, x.length ≤ 32768) (h64 : first + l.length ≤ 9223372036854775807) :
    Calls Tryz.prog 40 #[.slice A n c, .int .u64 (first : Nat)] w (PlacesPost w first l) := by
  have HB := Lib.hid hb
  have HP := Lib.hid hp
  have Hn := Lib.hid hn
  have HA := Lib.hid hA
  have HT := Lib.hid ht
  have Hl := Lib.hid hl
  obtain ⟨ln, hln⟩ : ∃ ln, ln = l.length := ⟨_, rfl⟩
  have hln9 : ln ≤ 400000 := by
    have h1 := sumR_le first l
    have h2 := congrArg List.length hp
    rw [List.length_append] at h2
    omega
  rw [← hln] at h64
  have Hln := Lib.hid hln
  have H0 : Hid (OwnPl w w first (.slice none 0 0) []) := Lib.hid ⟨World.ownsRow_nil _ _ _ _, fun q hq => by simp at hq, Kept.refl _ _⟩
  clear hb hp hn hA ht hl hln
  go_enter Tryz.func40, Tryz.ntmps40
  go_wp2_with fail
  go_step3
  go_wp2_with fail
  go_step3
  go_wp2_with fail
  go_loopw [6, 7, 8] (fun v a x wr => ∃ (j : Nat) (rs : List BV), a = .int .i64 ((frsL first (l.take j)).length : Nat) ∧ x = .int .u64 ((first + j : Nat) : Int) ∧ j ≤ ln ∧ Hid (rs.map BV.b = l.take j) ∧ Hid (OwnPl w wr first v rs)) (fun _ _ x _ => first + ln + 1 - (intOf x).toNat)
  case atStart => exact ⟨0, [], rfl, rfl, by omega, Lib.hid rfl, H0⟩
  case round =>
    obtain ⟨j, rs, rfl, rfl, hj, hR, hO⟩ := hrel
    obtain ⟨sz, hsz⟩ : ∃ sz, sz = (frsL first (l.take j)).length := ⟨_, rfl⟩
    obtain ⟨y, hy⟩ : ∃ y, y = first + j := ⟨_, rfl⟩
    rw [← hsz, ← hy]
    have hszn : sz ≤ n := by
      rw [hsz, Hn.out, HP.out, List.length_append]
      have h1 : l = l.take j ++ l.drop j := (List.take_append_drop j l).symm
      have h2 : frsL first l = frsL first (l.take j) ++ frsL (first + (l.take j).length) (l.drop j) := by rw [← frsL_append, ← h1]
      rw [h2, List.length_append]
      omega
    have hBs : Bs wr A b := HB.out.kept hO.out.kept (by simp)
    obtain ⟨A2, hs2, hb2, hA2⟩ := fromB_form A n sz c b Hn.out hszn hc HA.out
    obtain ⟨n2, hn2⟩ : ∃ n2, n2 = n - sz := ⟨_, rfl⟩
    obtain ⟨c2, hc2⟩ : ∃ c2, c2 = c - sz := ⟨_, rfl⟩
    rw [← hn2, ← hc2] at hs2
    rw [← hc2] at hA2
    by_cases hlt : j < ln
    · obtain ⟨d, hd⟩ : ∃ d, l[j]? = some d := ⟨_, List.getElem?_eq_getElem (by have := Hln.out; omega)⟩
      obtain ⟨hd1, hd2⟩ := frsL_at (f := first) (tail := t) hd
      have hdl := Hl.out d (List.mem_of_getElem? hd)
      have HTk : Hid (Calls Tryz.prog 65 #[.slice A2 n2 c2] wr (TakeOk wr y d)) := Lib.hid (by
        exact fTake_ok wr A2 n2 c2 y d (frsL (first + j + 1) (l.drop (j + 1)) ++ t) (b.drop sz) (by rw [List.length_drop, hn2, Hn.out]) (by omega) (by omega) hA2 (hb2 wr hBs) hdl (by omega) (by rw [HP.out, hsz, hy]; exact hd1))
      obtain ⟨k, hk⟩ : ∃ k, k = 16 + d.length := ⟨_, rfl⟩
      have hk9 : k ≤ 32784 := by omega
      have Hk := Lib.hid hk
      have Hd := Lib.hid hd
      have Hsz := Lib.hid (And.intro hsz hd2)
      have Hy := Lib.hid hy
      have hy9 : y ≤ 9223372036854775806 := by omega
      clear hBs hb2 hA2 hn2 hc2 hdl hd hsz hd1 hd2 hk hy
      go_upto_region 6 with (go_at_call 65; refine HTk.out.mono ?_; rintro e w1 ⟨V1, rfl, ho1, hk1⟩; rw [← Hk.out]; obtain ⟨A1, c1, rfl⟩ := own_slice ho1; have HO1 := Lib.hid ho1; have HK1 := Lib.hid hk1; clear ho1 hk1)
      obtain ⟨D, hD⟩ : ∃ D, D = w1.heap.size := ⟨_, rfl⟩
      obtain ⟨W2, hW2⟩ : ∃ W2, W2 = w1.alloc (.cells #[.int .u64 (y : Nat), .slice A1 d.length c1] 63) := ⟨_, rfl⟩
      have HB2 : Hid (BoxR W2 D y (.slice A1 d.length c1)) := Lib.hid (by rw [hW2, hD]; exact heap_alloc_new w1 _)
      have HK2 : Hid (Kept (fun _ => False) w1 W2) := Lib.hid (by rw [hW2]; exact (Kept.refl _ w1).alloc _)
      have HKr : Hid (Kept (fun _ => False) wr W2) := Lib.hid (HK1.out.trans' HK2.out)
      have HO2 := Lib.hid (hO.out.stay HKr.out)
      have HOr : Hid (W2.ownsRow w.heap.size 5 1 (.slice A1 d.length c1) d.length (d.map bv)) := Lib.hid (own_kept (own_low HO1.out (Nat.le_trans hO.out.kept.size (Nat.le_refl _))) HK2.out (by simp))
      rw [← hD, ← hW2]
      clear hD hW2
      have y0 := HB2.out.c0
      have y1 := HB2.out.c1
      obtain ⟨lr, hlr⟩ : ∃ lr, lr = rs.length := ⟨_, rfl⟩
      have hlrj : lr = j := by
        have := congrArg List.length hR.out
        rw [List.length_map, List.length_take] at this
        have := Hln.out; omega
      have Hlr := Lib.hid (And.intro hlr hlrj)
      have hlr9 : lr ≤ 400000 := by omega
      clear hlr hlrj
      go_upto_region 8 with (at_builtin; refine wpList_append_e elemPl rfl _ _ rfl w.heap.size _ lr _ rfl (by rw [Hlr.out.1]; exact own_kept HO2.out.row ((Kept.refl (fun _ => False) W2).alloc _) (by simp)) _ 1 1 [.int .u64 (y : Nat), .slice A1 d.length c1, .int .i64 (sz : Nat)] rfl (cs_new _ _ _) rfl (by simp [Value.oneCell']) (fun e => by cases e) (by omega) (Nat.le_trans HO2.out.kept.size ((Kept.refl (fun _ => False) W2).alloc _).size) ?_; intro v7 w7 hown hgrow; have HO7 := Lib.hid hown; have HG7 := Lib.hid hgrow; clear hown hgrow)
      have hyM : ¬ (y : Int) = 18446744073709551615 := by omega
      have hsz9 : (sz : Int) ≤ 5000000 := by omega
      have hk8 : (k : Int) ≤ 32784 := by omega
      have hy8 : (y : Int) ≤ 9223372036854775806 := by omega
      clear y0 y1
      go_wp2_with fail
      go_roundw
      case rel =>
        refine ⟨j + 1, rs ++ [⟨A1, c1, d⟩], ?_, ?_, by omega, Lib.hid ?_, Lib.hid ?_⟩
        · rw [Hsz.out.2, ← Hsz.out.1, ← Hk.out]; go_num
        · rw [← Nat.add_assoc, ← Hy.out]; go_num
        · rw [List.map_append, hR.out, List.map_singleton, List.take_add_one, Hd.out]; rfl
        · have h1 := HO7.out
          rw [Hlr.out.1] at h1
          have h0 : OwnPl w (W2.alloc (.cells [.int .u64 (y : Nat), .slice A1 d.length c1, .int .i64 (sz : Nat)].toArray 94)) first u6 rs := HO2.out.stay ((Kept.refl (fun _ => False) W2).alloc _)
          refine h0.grow (r := ⟨A1, c1, d⟩) (at_ := sz) ?_ HG7.out ?_ (own_kept HOr.out ((Kept.refl (fun _ => False) W2).alloc _) (by simp))
          · rw [← Hlr.out.1, Hlr.out.2, ← Hy.out]; rw [← Hlr.out.1] at h1; rw [Hlr.out.2] at h1; exact h1
          · rw [hR.out, Hsz.out.1, frsN_len]
      case measure => simp [intOf]; have := Hy.out; omega
    · obtain rfl : j = ln := by omega
      have hsh : Calls Tryz.prog 65 #[.slice A2 n2 c2] wr (TakeShort wr) := by
        obtain ⟨yy, m, h1, h2, h3⟩ := HT.out
        have h4 : b.drop sz = t := by rw [HP.out, hsz, Hln.out, List.take_length, List.drop_left]
        have h5 : n2 = t.length := by rw [hn2, Hn.out, ← List.length_drop, h4]
        have h6 : t.length = m := by rw [h3, List.length_take]; omega
        by_cases h16 : n2 < 16
        · exact fTake_less wr A2 n2 c2 h16
        · exact fTake_part wr A2 n2 c2 (first + l.length) yy t h5 (by omega) (by rw [← h4]; exact hb2 wr hBs) h1 (by omega) (by omega) (by rw [h5, h6]; exact h3)
      have HTk := Lib.hid hsh
      have Hsz := Lib.hid hsz
      have Hy := Lib.hid hy
      clear hBs hb2 hA2 hn2 hc2 hsz hy hsh
      go_wp2_with (go_at_call 65; refine HTk.out.mono ?_; rintro e w1 ⟨rfl, hk1⟩; have HK1 := Lib.hid hk1; clear hk1)
      rw [Exit.noGoto_ret]
      go_ret2
      have e1 : l.take j = l := List.take_of_length_le (by have := Hln.out; omega)
      refine ⟨u6, rs, ?_, by rw [hR.out, e1], hO.out.stay (HK1.out.alloc _)⟩
      rw [Hsz.out, e1]; rfl
end Go.Proofs.YtibalgfejfjndaaGreatDoor
end

/-! segment.Scan, walked. -/
section
set_option linter.unusedVariables false
set_option linter.unusedSimpArgs false
namespace Go.Proofs.YtibalgfejfjndaaGreatDoor
open Go.RowKit

def ScanPost (w : World) (first : Nat) (l : List (List UInt8)) (e : Ending) (w' : World) : Prop :=
  ∃ v rs, e = .returned (.tuple #[v, .int .i64 ((frsL first l).length : Nat)]) ∧ rs.map BV.b = l ∧ OwnRc w w' first v rs
/-- The cells of a row of structures of the call's own. -/
theorem own_cell {w : World} {base e size n : Nat} {v : Value} {xs : List Value} (h : w.ownsRow base e size v n xs) (hn : 0 < n) : ∃ G c, v = .slice (some ⟨G, 0, none⟩) n c ∧ v.ownBlock = some G ∧ n ≤ c ∧ ∀ (j : Nat) u, xs[j]? = some u → w.cell? ⟨G, j, none⟩ = some u := by
  rcases h.2 with ⟨hv, h0⟩ | ⟨g, cap, cur, hv, hb, hh, h1, h2, h3, h4⟩
  · omega
  · refine ⟨g, cap, hv, by rw [hv]; rfl, h1, fun j u hu => ?_⟩
    have := h.cells (g := g) (by rw [hv]; rfl) j u hu
    have e1 : (⟨g, 0, none⟩ : Addr).add j = ⟨g, j, none⟩ := by unfold Addr.add; split <;> simp_all
    rwa [e1] at this
theorem own_two {W : World} {e1 e2 b1 b2 s1 s2 n m : Nat} {v u : Value} {xs ys : List Value} (he : e1 ≠ e2) (h1 : W.ownsRow b1 e1 s1 v n xs) (h2 : W.ownsRow b2 e2 s2 u m ys) : ∀ k, v.ownBlock = some k → u.ownBlock = some k → False := by
  intro k e e3
  rcases h1.2 with ⟨hv, _⟩ | ⟨g, _, _, hv, _, hh, _⟩
  · rw [hv] at e; cases e
  · rcases h2.2 with ⟨hu, _⟩ | ⟨g', _, _, hu, _, hh', _⟩
    · rw [hu] at e3; cases e3
    · have hg : g = k := by rw [hv] at e; simpa [Value.ownBlock] using e
      have hg' : g' = k := by rw [hu] at e3; simpa [Value.ownBlock] using e3
      subst hg; subst hg'
      rw [hh] at hh'
      simp only [Option.some.injEq, Obj.cells.injEq] at hh'
      exact he hh'.2.1
set_option maxRecDepth 100000 in
set_option maxHeartbeats 8000000 in
theorem scan_any (w : World) (A : Option Addr) (n c first : Nat) (b t : List UInt8) (l : List (List UInt8)) (hn : n = b.length) (hc : n ≤ c) (hA : A = none → c = 0) (hb : Bs w A b) (hn9 : n ≤ 5000000)
    (hp : b = frsL first l ++ t) (ht : PartF (first + l.length) t) (hl : ∀ x ∈ l, x.length ≤ 32768) (h64 : first + l.length ≤ 9223372036854775807) :
    Calls Tryz.prog 14 #[.slice A n c, .int .u64 (first : Nat)] w (ScanPost w first l) := by
  have HPl := Lib.hid (places_any w A n c first b t l hn hc hA hb hn9 hp ht hl h64)
  have hln9 : l.length ≤ 400000 := by
    have h1 := sumR_le first l
    have h2 := congrArg List.length hp
    rw [List.length_append] at h2
    omega
  have Hln := Lib.hid hln9
  clear hn hc hA hb hn9 hp ht hl h64 hln9
  go_enter Tryz.func14, Tryz.ntmps14
  go_wp2_with (go_at_call 40; refine HPl.out.mono ?_; rintro e w1 ⟨v, rs, rfl, hR, hO⟩; obtain ⟨A1, c1, rfl⟩ := own_slice hO.row; have HR := Lib.hid hR; have HO := Lib.hid hO; clear hR hO)
  obtain ⟨ln, hln⟩ : ∃ ln, ln = rs.length := ⟨_, rfl⟩
  have hln9 : ln ≤ 400000 := by rw [hln, ← List.length_map (f := BV.b), HR.out]; exact Hln.out
  rw [← hln]
  have HLn := Lib.hid hln
  clear hln
  go_loopw [8, 19] (fun v i wr => ∃ (j : Nat), i = .int .i64 (j : Nat) ∧ j ≤ ln ∧ Hid (OwnRc w wr first v (rs.take j)) ∧ Hid (OwnPl w wr first (.slice A1 ln c1) rs)) (fun _ i _ => ln - (intOf i).toNat)
  case atStart => exact ⟨0, rfl, by omega, Lib.hid ⟨World.ownsRow_nil _ _ _ _, fun q hq => by simp at hq, HO.out.kept⟩, by rw [HLn.out]; exact HO⟩
  case round =>
    obtain ⟨j, rfl, hj, hRc, hPl⟩ := hrel
    by_cases hlt : j < ln
    · have hj9 : (j : Int) < (ln : Int) := by omega
      obtain ⟨r, hr⟩ : ∃ r, rs[j]? = some r := ⟨_, List.getElem?_eq_getElem (by have := HLn.out; omega)⟩
      have hrow := hPl.out.row
      rw [← HLn.out] at hrow
      obtain ⟨G, c1', hv, hob, -, hcell⟩ := own_cell hrow (by omega)
      simp only [Value.slice.injEq] at hv
      obtain ⟨rfl, -, rfl⟩ := hv
      obtain ⟨p0, p1, z, p2⟩ := cellsPl_at first 0 rs j r hr
      have d0 := hcell _ _ p0
      have d1 := hcell _ _ p1
      have d2 := hcell _ _ p2
      unfold BV.val at d1
      obtain ⟨y, hy⟩ : ∃ y, y = first + j := ⟨_, rfl⟩
      rw [← hy] at d0
      have Hy := Lib.hid hy
      have Hr := Lib.hid hr
      clear hrow hcell p0 p1 p2 hy hr
      go_upto_region 6 with fail
      obtain ⟨D, hD⟩ : ∃ D, D = wr.heap.size := ⟨_, rfl⟩
      obtain ⟨W2, hW2⟩ : ∃ W2, W2 = wr.alloc (.cells #[.int .u64 (y : Nat), .slice r.A r.b.length r.c, .int .i64 (z : Nat)] 94) := ⟨_, rfl⟩
      have hD2 : W2.heap[D]? = some (.cells #[.int .u64 (y : Nat), .slice r.A r.b.length r.c, .int .i64 (z : Nat)] 94 (0, 0)) := by rw [hW2, hD]; exact heap_alloc_new wr _
      have HK2 : Hid (Kept (fun _ => False) wr W2) := Lib.hid (by rw [hW2]; exact (Kept.refl _ wr).alloc _)
      have y0 : W2.cell? ⟨D, 0, none⟩ = some (.int .u64 (y : Nat)) := by simp [World.cell?, hD2]
      have y1 : W2.cell? ⟨D, 1, none⟩ = some (.slice r.A r.b.length r.c) := by simp [World.cell?, hD2]
      have HRc2 := Lib.hid (hRc.out.stay HK2.out)
      have HPl2 := Lib.hid (hPl.out.stay HK2.out)
      rw [← hD, ← hW2]
      obtain ⟨lr, hlr⟩ : ∃ lr, lr = (rs.take j).length := ⟨_, rfl⟩
      have hlrj : lr = j := by rw [hlr, List.length_take]; have := HLn.out; omega
      have Hlr := Lib.hid (And.intro hlr hlrj)
      have hlr9 : lr ≤ 400000 := by omega
      clear hD hW2 hD2 d0 d1 d2 hlr hlrj
      go_upto_region 7 with (at_builtin; refine wpList_append_e elemRc rfl _ _ rfl w.heap.size _ lr _ rfl (by rw [Hlr.out.1]; exact own_kept HRc2.out.row ((Kept.refl (fun _ => False) W2).alloc _) (by simp)) _ 1 1 [.int .u64 (y : Nat), .slice r.A r.b.length r.c] rfl (cs_new _ _ _) rfl (by simp [Value.oneCell']) (fun e => by cases e) (by omega) (Nat.le_trans HRc2.out.kept.size ((Kept.refl (fun _ => False) W2).alloc _).size) ?_; intro v7 w7 hown hgrow; have HO7 := Lib.hid hown; have HG7 := Lib.hid hgrow; clear hown hgrow)
      clear y0 y1
      go_wp2_with fail
      go_roundw
      case rel =>
        have h0 : OwnRc w (W2.alloc (.cells [.int .u64 (y : Nat), .slice r.A r.b.length r.c].toArray 63)) first u8 (rs.take j) := HRc2.out.stay ((Kept.refl (fun _ => False) W2).alloc _)
        have hP0 : OwnPl w (W2.alloc (.cells [.int .u64 (y : Nat), .slice r.A r.b.length r.c].toArray 63)) first (.slice (some ⟨G, 0, none⟩) ln c1) rs := HPl2.out.stay ((Kept.refl (fun _ => False) W2).alloc _)
        have hK7 := HG7.out.kept
        have hno : ∀ k, u8.ownBlock = some k → (Value.slice (some ⟨G, 0, none⟩) ln c1).ownBlock ≠ some k := fun k e e2 => own_two (by decide) h0.row hP0.row k e e2
        refine ⟨j + 1, by go_num, by omega, Lib.hid ?_, Lib.hid ⟨own_kept hP0.row hK7 fun k e e2 => hno k e2 e, fun q hq => own_kept (hP0.own q hq) hK7 fun k e => own_other (by decide) h0.row (hP0.own q hq) k e, hP0.kept.trans hK7 fun k hk e => by have := own_ge h0.row k e; omega⟩⟩
        have h1 := HO7.out
        rw [List.take_add_one, Hr.out]
        refine h0.grow (r := r) ?_ HG7.out (hP0.own r (List.mem_of_getElem? Hr.out))
        rw [← Hlr.out.1, Hlr.out.2, ← Hy.out]
        rw [Hlr.out.2] at h1
        exact h1
      case measure => simp [intOf]; omega
    · obtain rfl : j = ln := by omega
      have hj9 : ¬ (j : Int) < (j : Int) := by omega
      go_wp2
      go_ret2
      exact ⟨u8, rs.take j, rfl, by rw [List.take_of_length_le (by have := HLn.out; omega)]; exact HR.out, hRc.out⟩
end Go.Proofs.YtibalgfejfjndaaGreatDoor
end

/-! A log's last segment, its first and next offset, its bytes. -/
section
set_option linter.unusedVariables false
set_option linter.unusedSimpArgs false
namespace Go.Proofs.YtibalgfejfjndaaGreatDoor
open Go.RowKit

/-- What a row of segments reads as. -/
def RowM (w : World) (v : Value) (ms : List PM) : Prop := w.ownsRow 0 61 3 v ms.length (cellsM ms)
theorem RowM.form {w : World} {v : Value} {ms : List PM} (h : RowM w v ms) (hn : ms ≠ []) : ∃ G c, v = .slice (some ⟨G, 0, none⟩) ms.length c ∧ v.ownBlock = some G ∧ ms.length ≤ c ∧ c ≤ 9223372036854775807 ∧ G < w.heap.size ∧ ∀ k p, ms[k]? = some p → w.cell? ⟨G, k * 3, none⟩ = some (.int .u64 (p.first : Nat)) ∧ w.cell? ⟨G, k * 3 + 1, none⟩ = some p.rv ∧ w.cell? ⟨G, k * 3 + 2, none⟩ = some (.int .i64 (szP p.prt : Nat)) := by
  rcases h.2 with ⟨hv, h0⟩ | ⟨g, cap, cur, hv, hb, hh, h1, h2, h3, h4⟩
  · exact absurd (List.eq_nil_of_length_eq_zero h0) hn
  · refine ⟨g, cap, hv, by rw [hv]; rfl, h1, h2, (Array.getElem?_eq_some_iff.1 hh).1, fun k p hp => ?_⟩
    have key : ∀ i u, i < 3 → p.cells[i]? = some u → w.cell? ⟨g, k * 3 + i, none⟩ = some u := by
      intro i u hi hu
      have := h.cells (g := g) (by rw [hv]; rfl) (k * 3 + i) u (by rw [cellsM_at ms k p hp i hi]; exact hu)
      have e1 : (⟨g, 0, none⟩ : Addr).add (k * 3 + i) = ⟨g, k * 3 + i, none⟩ := by unfold Addr.add; split <;> simp_all <;> omega
      rwa [e1] at this
    exact ⟨key 0 _ (by omega) rfl, key 1 _ (by omega) rfl, key 2 _ (by omega) rfl⟩
theorem RowM.nil {w : World} {v : Value} (h : RowM w v []) : ∃ A c, v = .slice A 0 c := own_slice h
theorem RowM.kept {S : Nat → Prop} {w w' : World} {v : Value} {ms : List PM} (h : RowM w v ms) (hk : Kept S w w') (hS : ∀ k, v.ownBlock = some k → ¬ S k) : RowM w' v ms := own_kept h hk hS
set_option maxHeartbeats 1000000 in
theorem slLast_nil (w : World) (T F : Nat) (nm : ByteArray) (A : Option Addr) (c : Nat) (dead : Bool) (h : LB w T F nm (.slice A 0 c) dead) :
    Calls Tryz.prog 44 #[.pointer (some ⟨T, 0, none⟩)] w fun e w' => e = .returned (.pointer none) ∧ w' = w := by
  have c2 := h.c2
  clear h
  go_enter Tryz.func44, Tryz.ntmps44
  go_wp2
  go_ret
  exact ⟨rfl, rfl⟩
set_option maxHeartbeats 1000000 in
theorem slLast_some (w : World) (T F : Nat) (nm : ByteArray) (G n c : Nat) (dead : Bool) (h : LB w T F nm (.slice (some ⟨G, 0, none⟩) (n + 1) c) dead) (hn : n ≤ 1000000) (hc : n + 1 ≤ c) :
    Calls Tryz.prog 44 #[.pointer (some ⟨T, 0, none⟩)] w fun e w' => e = .returned (.pointer (some ⟨G, n * 3, none⟩)) ∧ ∃ m, w' = w.drewN m := by
  obtain ⟨k, hk⟩ : ∃ k, k = n + 1 := ⟨_, rfl⟩
  rw [← hk] at h
  have c2 := h.c2
  have h1 : ¬ ((k : Int) = 0) := by omega
  have h2 : IntKind.i64.wrap ((k : Int) - 1) = (n : Int) := by rw [IntKind.wrap_i64]; omega
  have h3 : (n : Int) < (k : Int) := by omega
  clear h hk
  go_enter Tryz.func44, Tryz.ntmps44
  go_upto_region 3 with fail
  go_quiet (fail)
  go_wp2
  go_ret
  exact ⟨rfl, _, rfl⟩
end Go.Proofs.YtibalgfejfjndaaGreatDoor
end

/-! A log's first and next offset, its bytes, its segments. -/
section
set_option linter.unusedVariables false
set_option linter.unusedSimpArgs false
namespace Go.Proofs.YtibalgfejfjndaaGreatDoor
open Go.RowKit

theorem LB.drewN {w : World} {T F : Nat} {nm : ByteArray} {v : Value} {dead : Bool} (h : LB w T F nm v dead) (m : Nat) : LB (w.drewN m) T F nm v dead := h.kept ((Kept.refl (fun _ => False) w).drewN m) (by simp)
set_option maxHeartbeats 1000000 in
theorem slNext_none (w : World) (T F : Nat) (nm : ByteArray) (A : Option Addr) (c : Nat) (dead : Bool) (h : LB w T F nm (.slice A 0 c) dead) :
    Calls Tryz.prog 18 #[.pointer (some ⟨T, 0, none⟩)] w fun e w' => e = .returned (.int .u64 0) ∧ w' = w := by
  have c2 := h.c2
  clear h
  go_enter Tryz.func18, Tryz.ntmps18
  go_wp2
  go_ret
  exact ⟨rfl, rfl⟩
set_option maxHeartbeats 1000000 in
theorem slNext_some (w : World) (T F : Nat) (nm : ByteArray) (G n c f r c2 : Nat) (A : Option Addr) (dead : Bool) (h : LB w T F nm (.slice (some ⟨G, 0, none⟩) (n + 1) c) dead) (hn : n ≤ 1000000) (hc : n + 1 ≤ c)
    (hf : w.cell? ⟨G, n * 3, none⟩ = some (.int .u64 (f : Nat))) (hr : w.cell? ⟨G, n * 3 + 1, none⟩ = some (.slice A r c2)) (h64 : f + r < 18446744073709551616) :
    Calls Tryz.prog 18 #[.pointer (some ⟨T, 0, none⟩)] w fun e w' => e = .returned (.int .u64 ((f + r : Nat) : Int)) ∧ ∃ m, w' = w.drewN m := by
  have HL := Lib.hid fun m => slLast_some (w.drewN m) T F nm G n c dead (h.drewN m) hn hc
  obtain ⟨k, hk⟩ : ∃ k, k = n + 1 := ⟨_, rfl⟩
  rw [← hk] at h
  have c2' := h.c2
  have h1 : ¬ ((k : Int) = 0) := by omega
  have h5 : IntKind.u64.wrap ((r : Nat) : Int) = (r : Int) := by rw [IntKind.wrap_u64]; omega
  have h6 : IntKind.u64.wrap ((f : Int) + (r : Int)) = ((f + r : Nat) : Int) := by rw [IntKind.wrap_u64]; omega
  obtain ⟨fr, hfr⟩ : ∃ fr, fr = f + r := ⟨_, rfl⟩
  rw [← hfr] at h6 ⊢
  clear h hk h64 hfr
  go_enter Tryz.func18, Tryz.ntmps18
  go_upto_region 3 with fail
  go_quiet ((go_at_call 44; exact Calls.quiet_of (HL.out _)))
  go_wp2
  go_ret
  exact ⟨rfl, _, rfl⟩
set_option maxHeartbeats 1000000 in
theorem slFirst_none (w : World) (T F : Nat) (nm : ByteArray) (A : Option Addr) (c : Nat) (dead : Bool) (h : LB w T F nm (.slice A 0 c) dead) :
    Calls Tryz.prog 48 #[.pointer (some ⟨T, 0, none⟩)] w fun e w' => e = .returned (.int .u64 0) ∧ w' = w := by
  have c2 := h.c2
  clear h
  go_enter Tryz.func48, Tryz.ntmps48
  go_wp2
  go_ret
  exact ⟨rfl, rfl⟩
set_option maxHeartbeats 1000000 in
theorem slFirst_some (w : World) (T F : Nat) (nm : ByteArray) (G k c f : Nat) (dead : Bool) (h : LB w T F nm (.slice (some ⟨G, 0, none⟩) k c) dead) (hk : 0 < k) (hf : w.cell? ⟨G, 0, none⟩ = some (.int .u64 (f : Nat))) :
    Calls Tryz.prog 48 #[.pointer (some ⟨T, 0, none⟩)] w fun e w' => e = .returned (.int .u64 (f : Nat)) ∧ w' = w := by
  have c2' := h.c2
  have h1 : ¬ ((k : Int) = 0) := by omega
  clear h
  go_enter Tryz.func48, Tryz.ntmps48
  go_wp2
  go_ret
  exact ⟨rfl, rfl⟩
end Go.Proofs.YtibalgfejfjndaaGreatDoor
end

/-! A log on its files: what is held; Sync. -/
section
set_option linter.unusedVariables false
set_option linter.unusedSimpArgs false
namespace Go.Proofs.YtibalgfejfjndaaGreatDoor
open Go.RowKit

/-- A log on files. -/
structure LG (w : World) (T F M : Nat) (nm : ByteArray) (ps : List PF) (clock : Nat) (lim arm : Int) (dn : Bool) (v : Value) (ms : List PM) (dead : Bool) : Prop where
  f : FilesAt w F M ps clock lim arm dn
  lb : LB w T F nm v dead
  row : RowM w v ms
  rr : ∀ p ∈ ms, w.ownsRow 0 30 1 p.rv p.rs.length (p.rs.map BV.val)
  own : ∀ p ∈ ms, ∀ r ∈ p.rs, w.ownsRow 0 5 1 r.val r.b.length (r.b.map bv)
  nT : T ∉ foot F M ps
  nv : ∀ k, v.ownBlock = some k → k ∉ foot F M ps
  nr : ∀ p ∈ ms, ∀ k, p.rv.ownBlock = some k → k ∉ foot F M ps
  nq : ∀ p ∈ ms, ∀ r ∈ p.rs, ∀ k, r.val.ownBlock = some k → k ∉ foot F M ps
  dj : ms.Pairwise fun p q => ∀ k, p.rv.ownBlock = some k → q.rv.ownBlock ≠ some k
/-- What a log's calls may turn. -/
def LFoot (T F M : Nat) (ps : List PF) (v : Value) (ms : List PM) (k : Nat) : Prop := k = T ∨ k ∈ foot F M ps ∨ v.ownBlock = some k ∨ ∃ p ∈ ms, p.rv.ownBlock = some k
structure MvL (w : World) (T F M : Nat) (ps : List PF) (v : Value) (ms : List PM) (ps' : List PF) (v' : Value) (ms' : List PM) (w' : World) : Prop where
  kept : Kept (LFoot T F M ps v ms) w w'
  feet : ∀ k, LFoot T F M ps' v' ms' k → LFoot T F M ps v ms k ∨ w.heap.size ≤ k
  recs : ∀ p ∈ ms', ∀ r ∈ p.rs, ∀ k, r.val.ownBlock = some k → (∃ q ∈ ms, ∃ x ∈ q.rs, x.val.ownBlock = some k) ∨ w.heap.size ≤ k
theorem LB.noRow {w : World} {T F : Nat} {nm : ByteArray} {v : Value} {dead : Bool} (h : LB w T F nm v dead) {base e size n : Nat} {u : Value} {xs : List Value} (ho : w.ownsRow base e size u n xs) (he : e ≠ 50) : u.ownBlock ≠ some T := fun e2 => by
  rcases ho.2 with ⟨hv, _⟩ | ⟨g, _, _, hv, _, hh, _⟩
  · rw [hv] at e2; cases e2
  · rw [hv] at e2
    have hg : g = T := by simpa [Value.ownBlock] using e2
    subst hg
    rw [show w.heap[g]? = _ from h] at hh
    simp only [Option.some.injEq, Obj.cells.injEq] at hh
    exact he hh.2.1.symm
theorem own_ltH {w : World} {base e size n : Nat} {v : Value} {xs : List Value} (h : w.ownsRow base e size v n xs) : ∀ k, v.ownBlock = some k → k < w.heap.size := fun k e => by
  rcases h.2 with ⟨hv, _⟩ | ⟨g, _, _, hv, _, hh, _⟩
  · rw [hv] at e; cases e
  · rw [hv] at e
    have hg : g = k := by simpa [Value.ownBlock] using e
    subst hg
    exact (Array.getElem?_eq_some_iff.1 hh).1
section
variable {w w' w2 : World} {T F M : Nat} {nm : ByteArray} {ps ps' ps2 : List PF} {clock clock' : Nat} {lim lim' arm arm' : Int} {dn dn' : Bool} {v v' v2 : Value} {ms ms' ms2 : List PM} {dead dead' : Bool}
theorem MvL.refl : MvL w T F M ps v ms ps v ms w := ⟨Kept.refl _ _, fun k h => .inl h, fun p hp r hr k e => .inl ⟨p, hp, r, hr, e⟩⟩
theorem MvL.trans (h : MvL w T F M ps v ms ps' v' ms' w') (k : MvL w' T F M ps' v' ms' ps2 v2 ms2 w2) : MvL w T F M ps v ms ps2 v2 ms2 w2 :=
  ⟨h.kept.trans k.kept fun i hi e => (h.feet i e).elim id fun e2 => by omega, fun i e => (k.feet i e).elim (h.feet i) fun e2 => .inr (Nat.le_trans h.kept.size e2), fun p hp r hr i e => (k.recs p hp r hr i e).elim (fun ⟨q, hq, x, hx, e2⟩ => h.recs q hq x hx i e2) fun e2 => .inr (Nat.le_trans h.kept.size e2)⟩
theorem MvL.stay (hk : Kept (fun _ => False) w w') : MvL w T F M ps v ms ps v ms w' := ⟨hk.mono fun _ _ e => e.elim, fun k e => .inl e, fun p hp r hr k e => .inl ⟨p, hp, r, hr, e⟩⟩
theorem MvL.went (h : Went w F M ps ps' clock lim arm dn w') : MvL w T F M ps v ms ps' v ms w' :=
  ⟨h.kept.mono fun _ _ e => .inr (.inl e), fun k e => by
    rcases e with e | e | e
    · exact .inl (.inl e)
    · exact (h.feet k e).imp (fun e => .inr (.inl e)) id
    · exact .inl (.inr (.inr e)), fun p hp r hr k e => .inl ⟨p, hp, r, hr, e⟩⟩
theorem MvL.turn (hk : Kept (fun k => k = T) w w') : MvL w T F M ps v ms ps v ms w' := ⟨hk.mono fun _ _ e => .inl e, fun k e => .inl e, fun p hp r hr k e => .inl ⟨p, hp, r, hr, e⟩⟩
theorem LG.stay (h : LG w T F M nm ps clock lim arm dn v ms dead) (hk : Kept (fun _ => False) w w') : LG w' T F M nm ps clock lim arm dn v ms dead :=
  ⟨h.f.kept hk (by simp), h.lb.kept hk (by simp), h.row.kept hk (by simp), fun p hp => own_kept (h.rr p hp) hk (by simp), fun p hp r hr => own_kept (h.own p hp r hr) hk (by simp), h.nT, h.nv, h.nr, h.nq, h.dj⟩
theorem LG.went (h : LG w T F M nm ps clock lim arm dn v ms dead) (g : Went w F M ps ps' clock' lim' arm' dn' w') : LG w' T F M nm ps' clock' lim' arm' dn' v ms dead :=
  ⟨g.at_, h.lb.kept g.kept h.nT, h.row.kept g.kept fun k e e2 => h.nv k e e2, fun p hp => own_kept (h.rr p hp) g.kept fun k e e2 => h.nr p hp k e e2, fun p hp r hr => own_kept (h.own p hp r hr) g.kept fun k e e2 => h.nq p hp r hr k e e2,
   fun hm => (g.feet T hm).elim h.nT fun h2 => by have := h.lb.lt; omega,
   fun k e hm => (g.feet k hm).elim (h.nv k e) fun h2 => by have := own_ltH h.row k e; omega,
   fun p hp k e hm => (g.feet k hm).elim (h.nr p hp k e) fun h2 => by have := own_ltH (h.rr p hp) k e; omega,
   fun p hp r hr k e hm => (g.feet k hm).elim (h.nq p hp r hr k e) fun h2 => by have := own_ltH (h.own p hp r hr) k e; omega, h.dj⟩
theorem LG.turn (h : LG w T F M nm ps clock lim arm dn v ms dead) (hs : LB w' T F nm v dead') (hk : Kept (fun k => k = T) w w') : LG w' T F M nm ps clock lim arm dn v ms dead' :=
  ⟨h.f.kept hk (fun k hm e => h.nT (e ▸ hm)), hs, h.row.kept hk fun k e e2 => h.lb.noRow h.row (by decide) (e2 ▸ e), fun p hp => own_kept (h.rr p hp) hk fun k e e2 => h.lb.noRow (h.rr p hp) (by decide) (e2 ▸ e), fun p hp r hr => own_kept (h.own p hp r hr) hk fun k e e2 => h.lb.noRow (h.own p hp r hr) (by decide) (e2 ▸ e), h.nT, h.nv, h.nr, h.nq, h.dj⟩
end
/-- The segments, pure. -/
def prts (ms : List PM) : List Prt := ms.map PM.prt
/-- What Sync answers and leaves. -/
def SyncPost (w : World) (T F M : Nat) (nm : ByteArray) (ps : List PF) (lim arm : Int) (v : Value) (ms : List PM) (d : Disk) (e : Ending) (w' : World) : Prop :=
  ∃ er ps' c', e = .returned (.int .i64 er) ∧
    ((er = 0 ∧ arm ≠ 1 ∧ LG w' T F M nm ps' c' lim (decA arm) false v ms false ∧ lk ps' = d) ∨ (er = 13 ∧ arm = 1 ∧ LG w' T F M nm ps' c' lim (decA arm) true v ms true ∧ lk ps' = lk ps)) ∧ MvL w T F M ps v ms ps' v ms w'
set_option maxRecDepth 100000 in
set_option maxHeartbeats 4000000 in
theorem slSync_some (w : World) (T F M : Nat) (nm : ByteArray) (ps : List PF) (clock : Nat) (lim arm : Int) (v : Value) (ms : List PM) (p : PM) (sv : FV) (h : LG w T F M nm ps clock lim arm false v (ms ++ [p]) false) (hn : ms.length ≤ 1000000) (hnm : nm.size ≤ 1000000) (h64 : p.first < 18446744073709551616) (hl : lk ps (fileB nm p.first) = some sv) :
    Calls Tryz.prog 23 #[.pointer (some ⟨T, 0, none⟩)] w (SyncPost w T F M nm ps lim arm v (ms ++ [p]) ((lk ps).put (fileB nm p.first) (some (sv.1, sv.1.length)))) := by
  have H := Lib.hid h
  have HR := Lib.hid (slReady_ok w T F M nm v lim arm h.lb h.f.fb)
  obtain ⟨G, c, rfl, hob, hc, hc9, hG, hcell⟩ := h.row.form (by simp)
  obtain ⟨n, hn'⟩ : ∃ n, n = ms.length := ⟨_, rfl⟩
  have hlen : (ms ++ [p]).length = n + 1 := by rw [hn']; simp
  rw [hlen] at hc H
  rw [hlen]
  have hp : (ms ++ [p])[n]? = some p := by rw [hn']; simp
  obtain ⟨g0, -, -⟩ := hcell n p hp
  have HLa := Lib.hid (slLast_some w T F nm G n c false H.out.lb (by omega) hc)
  have HFi : Hid (∀ W, Calls Tryz.prog 10 #[.string nm, .int .u64 (p.first : Nat)] W fun e w' => e = .returned (.string (fileB nm p.first)) ∧ Kept (fun _ => False) W w') := Lib.hid fun W => slFile_any W nm p.first hnm h64
  have HLk := Lib.hid hl
  have c0 := H.out.lb.c0
  have c1 := H.out.lb.c1
  have HS : Hid (∀ W S, Kept S w W → ¬ S T → ¬ S G → W.cell? ⟨T, 0, none⟩ = some (.pointer (some ⟨F, 0, none⟩)) ∧ W.cell? ⟨T, 1, none⟩ = some (.string nm) ∧ W.cell? ⟨G, n * 3, none⟩ = some (.int .u64 (p.first : Nat))) := Lib.hid fun W S hk hS hG => ⟨hk.cell c0 hS, hk.cell c1 hS, hk.cell g0 hG⟩
  have HGf : Hid (G ∉ foot F M ps ∧ G ≠ T) := Lib.hid ⟨H.out.nv G hob, fun e => H.out.lb.noRow H.out.row (by decide) (e ▸ hob)⟩
  clear h hcell hp hob hlen hn' hl hn hc9
  go_enter Tryz.func23, Tryz.ntmps23
  go_upto_region 7 with (first | (go_at_call 42; refine HR.out.mono ?_; rintro e w ⟨rfl, rfl⟩) | (go_at_call 44; refine HLa.out.mono ?_; rintro e w9 ⟨rfl, m9, rfl⟩))
  obtain ⟨W1, hW1⟩ : ∃ W1, W1 = w.drewN m9 := ⟨_, rfl⟩
  have HK1 : Hid (Kept (fun _ => False) w W1) := Lib.hid (by rw [hW1]; exact (Kept.refl _ _).drewN _)
  rw [← hW1]
  have s1 := HS.out W1 _ HK1.out (by simp) (by simp)
  clear hW1 c0 c1 g0
  go_region_held3 (fun W => W.cell? ⟨T, 0, none⟩ = some (.pointer (some ⟨F, 0, none⟩)) ∧ W.cell? ⟨T, 1, none⟩ = some (.string nm) ∧ W.cell? ⟨G, n * 3, none⟩ = some (.int .u64 (p.first : Nat))) (first | assumption | exact s1) (first
    | (go_at_call 45; refine (slMet_any w3 T F nm _ false er HLB3.out).mono ?_; rintro e w4 ⟨rfl, hl4, hk4⟩; have HL4 := Lib.hid hl4; have HK4 := Lib.hid hk4; have s4 : w4.cell? ⟨T, 0, none⟩ = some (.pointer (some ⟨F, 0, none⟩)) ∧ w4.cell? ⟨T, 1, none⟩ = some (.string nm) ∧ w4.cell? ⟨G, n * 3, none⟩ = some (.int .u64 (p.first : Nat)) := ⟨hl4.c0, hl4.c1, hk4.cell s3.2.2 HGf.out.2⟩; clear hl4 hk4)
    | (go_at_call 50; refine ((sync_D (fileB nm p.first) sv (H.out.stay HK2.out).f HLk.out).mono fun _ _ h => opR_of h).mono ?_; rintro e w3 ⟨er, rfl, ps3, c3, h3⟩; have H3 := Lib.hid h3; have HKF : Hid (Kept (fun k => k ∈ foot F M ps) w2 w3) := Lib.hid (by rcases h3 with ⟨_, _, hw, _⟩ | ⟨_, _, hw, _⟩ <;> exact hw.kept); have HLB3 := Lib.hid ((H.out.stay HK2.out).lb.kept HKF.out H.out.nT); have s3 := HS.out w3 _ ((HK2.out.mono fun _ _ e => e.elim).trans' HKF.out) H.out.nT HGf.out.1; clear h3)
    | (go_at_call 10; refine (HFi.out _).mono ?_; rintro e w2 ⟨rfl, hk⟩; have HK2 : Hid (Kept (fun _ => False) w w2) := (by first | exact Lib.hid (HK1.out.trans' hk) | exact Lib.hid (HK1.out.drew.trans' hk)); have s2 := HS.out w2 _ HK2.out (by simp) (by simp); clear hk))
  go_wp2
  go_ret
  have hM2 : MvL w T F M ps (.slice (some ⟨G, 0, none⟩) (n + 1) c) (ms ++ [p]) ps (.slice (some ⟨G, 0, none⟩) (n + 1) c) (ms ++ [p]) w2 := MvL.stay HK2.out
  have hm := slMet_any w3 T F nm (.slice (some ⟨G, 0, none⟩) (n + 1) c) false er HLB3.out
  rcases H3.out with ⟨rfl, ha, hw, hd⟩ | ⟨rfl, ha, hw, hd⟩
  · refine ⟨13, ps3, c3, rfl, .inr ⟨rfl, ha, ((H.out.stay HK2.out).went hw).turn (by simpa using HL4.out) HK4.out, hd⟩, (hM2.trans (MvL.went hw)).trans (MvL.turn HK4.out)⟩
  · refine ⟨0, ps3, c3, rfl, .inl ⟨rfl, ha, ((H.out.stay HK2.out).went hw).turn (by simpa using HL4.out) HK4.out, hd⟩, (hM2.trans (MvL.went hw)).trans (MvL.turn HK4.out)⟩
end Go.Proofs.YtibalgfejfjndaaGreatDoor
end

/-! A log, one segment more; one record more. -/
section
set_option linter.unusedVariables false
set_option linter.unusedSimpArgs false
namespace Go.Proofs.YtibalgfejfjndaaGreatDoor
open Go.RowKit

theorem infoPt : (Tryz.prog.info? 61).map (fun i => (i.zero, i.size, i.bytes)) = some (some (.agg #[.int .u64 0, .slice none 0 0, .int .i64 0]), 3, 40) := by kernel_rfl
theorem elemPt : ElemT 48 61 3 40 := ElemT.of Tryz.underlying48 infoPt (by kernel_rfl) (by decide) (by decide)
theorem infoBs : (Tryz.prog.info? 30).map (fun i => (i.zero, i.size, i.bytes)) = some (some (.slice none 0 0), 1, 24) := by kernel_rfl
theorem elemBs : ElemT 28 30 1 24 := ElemT.of Tryz.underlying28 infoBs (by kernel_rfl) (by decide) (by decide)
/-- What the slice of a segment's records reads as. -/
theorem own_bbs {w : World} {b : Nat} {v : Value} {A : Option Addr} {c : Nat} {rs : List BV} (hv : v = .slice A rs.length c) (h : w.ownsRow b 30 1 v rs.length (rs.map BV.val)) (ho : ∀ r ∈ rs, w.ownsRow 0 5 1 r.val r.b.length (r.b.map bv)) : BBs w A rs := by
  intro j r hr
  obtain ⟨G, c', hv', -, -, hcell⟩ := own_cell h (by have := (List.getElem?_eq_some_iff.1 hr).1; omega)
  rw [hv] at hv'
  simp only [Value.slice.injEq] at hv'
  obtain ⟨rfl, -, rfl⟩ := hv'
  obtain ⟨A2, c2, h2, -, h3, h4, -⟩ := Bs.of_own (ho r (List.mem_of_getElem? hr))
  unfold BV.val at h2
  simp only [Value.slice.injEq] at h2
  obtain ⟨rfl, -, rfl⟩ := h2
  have e1 : (⟨G, 0, none⟩ : Addr).add j = ⟨G, j, none⟩ := by unfold Addr.add; split <;> simp_all
  exact ⟨_, rfl, by rw [e1]; exact hcell j _ (by simp [hr, BV.val]), h3, h4⟩
section
variable {w w0 w1 w2 : World} {T F M : Nat} {nm : ByteArray} {ps : List PF} {clock : Nat} {lim arm : Int} {dn dead : Bool} {v v' : Value} {ms : List PM} {p : PM}
theorem LG.rd (h : LG w T F M nm ps clock lim arm dn v ms dead) : ∀ p ∈ ms, BBs w p.A p.rs := fun p hp => own_bbs (b := 0) rfl (h.rr p hp) (h.own p hp)
theorem pw_snoc {R : PM → PM → Prop} {l : List PM} {x y : PM} (h : (l ++ [x]).Pairwise R) (hy : ∀ a ∈ l, R a y) : (l ++ [y]).Pairwise R := by
  rw [List.pairwise_append] at h ⊢
  exact ⟨h.1, List.pairwise_singleton _ _, fun a ha b hb => by rw [List.mem_singleton.1 hb]; exact hy a ha⟩
/-- A segment more: the row has grown, and is stored. -/
theorem LG.more {f : Nat} (h : LG w0 T F M nm ps clock lim arm dn v ms dead) (hk : Kept (fun _ => False) w0 w) (ho : w1.ownsRow 0 61 3 v' (ms.length + 1) (cellsM ms ++ [.int .u64 (f : Nat), .slice none 0 0, .int .i64 0])) (hg : Grew w w1 v v') :
    LG (w1.setCell ⟨T, 2, none⟩ v') T F M nm ps clock lim arm dn v' (ms ++ [⟨f, none, 0, []⟩]) dead ∧ MvL w0 T F M ps v ms ps v' (ms ++ [⟨f, none, 0, []⟩]) (w1.setCell ⟨T, 2, none⟩ v') := by
  have h0 := h.stay hk
  have hK := hg.kept
  have hT := kF w1 T 2 v'
  have hTl := h0.lb.lt
  have hvT : v.ownBlock ≠ some T := h0.lb.noRow h0.row (by decide)
  have hlb : LB w1 T F nm v dead := h0.lb.kept hK hvT
  have hnew : ∀ k, v'.ownBlock = some k → v.ownBlock = some k ∨ w.heap.size ≤ k := fun k e => by
    rcases hg with ⟨e1, -⟩ | ⟨e1, -⟩
    · exact .inl (e1 ▸ e)
    · rw [e1] at e; injection e with e; exact .inr (by omega)
  have hfl := h0.f.lt
  refine ⟨⟨(h0.f.kept hK fun k hm e => h0.nv k e hm).kept hT fun k hm e => h0.nT (e ▸ hm), hlb.s2 v', ?_, fun q hq => ?_, fun q hq r hr => ?_, h0.nT, fun k e hm => ?_, fun q hq k e hm => ?_, fun q hq r hr k e hm => ?_, ?_⟩, ?_, fun k e => ?_, fun q hq r hr k e => ?_⟩
  · have h1 : w1.ownsRow 0 61 3 v' (ms ++ [(⟨f, none, 0, []⟩ : PM)]).length (cellsM (ms ++ [⟨f, none, 0, []⟩])) := by
      rw [List.length_append, List.length_singleton, cellsM_append]; exact ho
    exact own_kept h1 hT fun k e e2 => hlb.noRow h1 (by decide) (e2 ▸ e)
  · rcases List.mem_append.1 hq with hq | hq
    · have h1 := own_kept (h0.rr q hq) hK fun k e e2 => own_two (by decide) h0.row (h0.rr q hq) k e2 e
      exact own_kept h1 hT fun k e e2 => hlb.noRow h1 (by decide) (e2 ▸ e)
    · rw [List.mem_singleton.1 hq]; exact World.ownsRow_nil _ _ _ _
  · rcases List.mem_append.1 hq with hq | hq
    · have h1 := own_kept (h0.own q hq r hr) hK fun k e e2 => own_two (by decide) h0.row (h0.own q hq r hr) k e2 e
      exact own_kept h1 hT fun k e e2 => hlb.noRow h1 (by decide) (e2 ▸ e)
    · rw [List.mem_singleton.1 hq] at hr; cases hr
  · rcases hnew k e with e1 | e1
    · exact h0.nv k e1 hm
    · have := hfl k hm; omega
  · rcases List.mem_append.1 hq with hq | hq
    · exact h0.nr q hq k e hm
    · rw [List.mem_singleton.1 hq] at e; cases e
  · rcases List.mem_append.1 hq with hq | hq
    · exact h0.nq q hq r hr k e hm
    · rw [List.mem_singleton.1 hq] at hr; cases hr
  · rw [List.pairwise_append]
    refine ⟨h0.dj, List.pairwise_singleton _ _, fun a ha b hb k e => ?_⟩
    rw [List.mem_singleton.1 hb]
    exact fun e => by cases e
  · exact ((hk.mono fun _ _ e => e.elim).trans' (hK.mono fun k _ e => .inr (.inr (.inl e)))).trans' (hT.mono fun k _ e => .inl e)
  · rcases e with e | e | e | ⟨q, hq, e⟩
    · exact .inl (.inl e)
    · exact .inl (.inr (.inl e))
    · rcases hnew k e with e1 | e1
      · exact .inl (.inr (.inr (.inl e1)))
      · exact .inr (Nat.le_trans hk.size e1)
    · rcases List.mem_append.1 hq with hq | hq
      · exact .inl (.inr (.inr (.inr ⟨q, hq, e⟩)))
      · rw [List.mem_singleton.1 hq] at e; cases e
  · rcases List.mem_append.1 hq with hq | hq
    · exact .inl ⟨q, hq, r, hr, e⟩
    · rw [List.mem_singleton.1 hq] at hr; cases hr
/-- A record more, in the last segment. -/
theorem LG.recd {G c' : Nat} {A' : Option Addr} {r : BV} (h : LG w0 T F M nm ps clock lim arm dn v (ms ++ [p]) dead) (hk : Kept (fun _ => False) w0 w) (hv : v.ownBlock = some G) (hr : w.ownsRow w0.heap.size 5 1 r.val r.b.length (r.b.map bv))
    (ho : w1.ownsRow 0 30 1 (.slice A' (p.rs.length + 1) c') (p.rs.length + 1) (p.rs.map BV.val ++ [r.val])) (hg : Grew w w1 p.rv (.slice A' (p.rs.length + 1) c')) :
    LG ((w1.setCell ⟨G, ms.length * 3 + 1, none⟩ (.slice A' (p.rs.length + 1) c')).setCell ⟨G, ms.length * 3 + 2, none⟩ (.int .i64 ((szP p.prt + (16 + r.b.length) : Nat) : Int))) T F M nm ps clock lim arm dn v (ms ++ [⟨p.first, A', c', p.rs ++ [r]⟩]) dead ∧
    MvL w0 T F M ps v (ms ++ [p]) ps v (ms ++ [⟨p.first, A', c', p.rs ++ [r]⟩]) ((w1.setCell ⟨G, ms.length * 3 + 1, none⟩ (.slice A' (p.rs.length + 1) c')).setCell ⟨G, ms.length * 3 + 2, none⟩ (.int .i64 ((szP p.prt + (16 + r.b.length) : Nat) : Int))) ∧
    BBs ((w1.setCell ⟨G, ms.length * 3 + 1, none⟩ (.slice A' (p.rs.length + 1) c')).setCell ⟨G, ms.length * 3 + 2, none⟩ (.int .i64 ((szP p.prt + (16 + r.b.length) : Nat) : Int))) p.A p.rs := by
  obtain ⟨u, hu⟩ : ∃ u, u = Value.slice A' (p.rs.length + 1) c' := ⟨_, rfl⟩
  obtain ⟨z, hz⟩ : ∃ z, z = szP p.prt + (16 + r.b.length) := ⟨_, rfl⟩
  rw [← hu, ← hz]
  rw [← hu] at ho hg
  have h0 := h.stay hk
  have hK := hg.kept
  have hpm : p ∈ ms ++ [p] := by simp
  obtain ⟨W3, hW3⟩ : ∃ W3, W3 = (w1.setCell ⟨G, ms.length * 3 + 1, none⟩ u).setCell ⟨G, ms.length * 3 + 2, none⟩ (.int .i64 (z : Nat)) := ⟨_, rfl⟩
  have hkG : Kept (fun k => k = G) w1 W3 := by rw [hW3]; exact (kF w1 G _ u).trans' (kF _ G _ _)
  have hTl := h0.lb.lt
  have hvT : G ≠ T := fun e => h0.lb.noRow h0.row (by decide) (e ▸ hv)
  have hrT : p.rv.ownBlock ≠ some T := h0.lb.noRow (h0.rr p hpm) (by decide)
  have hnew : ∀ k, u.ownBlock = some k → p.rv.ownBlock = some k ∨ w.heap.size ≤ k := fun k e => by
    rcases hg with ⟨e1, -⟩ | ⟨e1, -⟩
    · exact .inl (e1 ▸ e)
    · rw [e1] at e; injection e with e; exact .inr (by omega)
  have hfl := h0.f.lt
  have hGl := own_ltH h0.row G hv
  have hrow1 : w1.ownsRow 0 61 3 v (ms ++ [p]).length (cellsM (ms ++ [p])) := own_kept h0.row hK fun k e e2 => own_two (by decide) h0.row (h0.rr p hpm) k e e2
  have hGn : G ∉ foot F M ps := h0.nv G hv
  -- rows of other kinds stay
  have st : ∀ {b e s n : Nat} {x : Value} {xs : List Value}, w.ownsRow b e s x n xs → e ≠ 61 → (∀ k, x.ownBlock = some k → p.rv.ownBlock ≠ some k) → W3.ownsRow b e s x n xs := fun {b e s n x xs} hx he hn =>
    own_kept (own_kept hx hK fun k e1 e2 => hn k e1 e2) hkG fun k e1 e2 => own_two he hx h0.row k e1 (e2 ▸ hv)
  have hnewR : W3.ownsRow 0 30 1 u (p.rs.length + 1) (p.rs.map BV.val ++ [r.val]) := own_kept ho hkG fun k e1 e2 => own_two (by decide) ho hrow1 k e1 (e2 ▸ hv)
  have hrec : W3.ownsRow w0.heap.size 5 1 r.val r.b.length (r.b.map bv) := st hr (by decide) fun k e1 e2 => own_two (by decide) hr (h0.rr p hpm) k e1 e2
  have hown3 : ∀ q ∈ ms ++ [p], ∀ x ∈ q.rs, W3.ownsRow 0 5 1 x.val x.b.length (x.b.map bv) := fun q hq x hx => st (h0.own q hq x hx) (by decide) fun k e1 e2 => own_two (by decide) (h0.own q hq x hx) (h0.rr p hpm) k e1 e2
  have hdj : ∀ q ∈ ms, ∀ k, q.rv.ownBlock = some k → p.rv.ownBlock ≠ some k := fun q hq k e => by
    have := h0.dj
    rw [List.pairwise_append] at this
    exact this.2.2 q hq p (by simp) k e
  rw [← hW3]
  have hp' : (⟨p.first, A', c', p.rs ++ [r]⟩ : PM).rv = u := by rw [hu]; simp [PM.rv]
  refine ⟨⟨(h0.f.kept hK fun k hm e => h0.nr p hpm k e hm).kept hkG fun k hm e => hGn (e ▸ hm), (h0.lb.kept hK hrT).kept hkG fun e => hvT e.symm, ?_, fun q hq => ?_, fun q hq x hx => ?_, h0.nT, h0.nv, fun q hq k e hm => ?_, fun q hq x hx k e hm => ?_, pw_snoc h0.dj fun a ha k e e2 => ?_⟩, ⟨?_, fun k e => ?_, fun q hq x hx k e => ?_⟩, ?_⟩
  · have h1 := own_set hrow1 hv (ms.length * 3 + 1) u (by rw [hu]; rfl) (by rw [cellsM_len]; simp; omega)
    have h2 := own_set h1 hv (ms.length * 3 + 2) (.int .i64 (z : Nat)) rfl (by rw [List.length_set, cellsM_len]; simp; omega)
    rw [← hW3] at h2
    have h3 := cellsM_last ms p ⟨p.first, A', c', p.rs ++ [r]⟩ rfl
    have h4 : szP (⟨p.first, A', c', p.rs ++ [r]⟩ : PM).prt = z := by
      rw [hz]
      have := szP_snoc p.prt r.b
      simpa [PM.prt] using this
    rw [hp', h4] at h3
    rw [h3] at h2
    unfold RowM
    simpa using h2
  · rcases List.mem_append.1 hq with hq | hq
    · exact st (h0.rr q (List.mem_append_left _ hq)) (by decide) fun k e1 e2 => hdj q hq k e1 e2
    · rw [List.mem_singleton.1 hq, hp']
      simpa using hnewR
  · rcases List.mem_append.1 hq with hq | hq
    · exact hown3 q (List.mem_append_left _ hq) x hx
    · rw [List.mem_singleton.1 hq] at hx
      rcases List.mem_append.1 hx with hx | hx
      · exact hown3 p hpm x hx
      · rw [List.mem_singleton.1 hx]; exact own_low hrec (Nat.zero_le _)
  · rcases List.mem_append.1 hq with hq | hq
    · exact h0.nr q (List.mem_append_left _ hq) k e hm
    · rw [List.mem_singleton.1 hq, hp'] at e
      rcases hnew k e with e1 | e1
      · exact h0.nr p hpm k e1 hm
      · have := hfl k hm; omega
  · rcases List.mem_append.1 hq with hq | hq
    · exact h0.nq q (List.mem_append_left _ hq) x hx k e hm
    · rw [List.mem_singleton.1 hq] at hx
      rcases List.mem_append.1 hx with hx | hx
      · exact h0.nq p hpm x hx k e hm
      · rw [List.mem_singleton.1 hx] at e
        have h1 := own_ge hr k e
        have h2 := h.f.lt k hm
        omega
  · rw [hp'] at e2
    rcases hnew k e2 with e1 | e1
    · exact hdj a ha k e e1
    · have := own_ltH (h0.rr a (List.mem_append_left _ ha)) k e; omega
  · exact ((hk.mono fun _ _ e => e.elim).trans' (hK.mono fun k _ e => .inr (.inr (.inr ⟨p, hpm, e⟩)))).trans' (hkG.mono fun k _ e => .inr (.inr (.inl (by rw [e]; exact hv))))
  · rcases e with e | e | e | ⟨q, hq, e⟩
    · exact .inl (.inl e)
    · exact .inl (.inr (.inl e))
    · exact .inl (.inr (.inr (.inl e)))
    · rcases List.mem_append.1 hq with hq | hq
      · exact .inl (.inr (.inr (.inr ⟨q, List.mem_append_left _ hq, e⟩)))
      · rw [List.mem_singleton.1 hq, hp'] at e
        rcases hnew k e with e1 | e1
        · exact .inl (.inr (.inr (.inr ⟨p, hpm, e1⟩)))
        · exact .inr (Nat.le_trans hk.size e1)
  · rcases List.mem_append.1 hq with hq | hq
    · exact .inl ⟨q, List.mem_append_left _ hq, x, hx, e⟩
    · rw [List.mem_singleton.1 hq] at hx
      rcases List.mem_append.1 hx with hx | hx
      · exact .inl ⟨p, hpm, x, hx, e⟩
      · rw [List.mem_singleton.1 hx] at e
        exact .inr (own_ge hr k e)
  · -- the old slice reads as before
    intro j x hx
    have hj := (List.getElem?_eq_some_iff.1 hx).1
    obtain ⟨G1, c1, hv1, hb1, -, hcell⟩ := own_cell (h0.rr p hpm) (by omega)
    unfold PM.rv at hv1
    simp only [Value.slice.injEq] at hv1
    obtain ⟨hA, -, -⟩ := hv1
    obtain ⟨A2, c2, h2, -, h3, h4, -⟩ := Bs.of_own (hown3 p hpm x (List.mem_of_getElem? hx))
    unfold BV.val at h2
    simp only [Value.slice.injEq] at h2
    obtain ⟨rfl, -, rfl⟩ := h2
    have e1 : (⟨G1, 0, none⟩ : Addr).add j = ⟨G1, j, none⟩ := by unfold Addr.add; split <;> simp_all
    refine ⟨_, hA, ?_, h3, h4⟩
    rw [e1]
    have hG1 : G1 ≠ G := fun e => own_two (by decide) (h0.rr p hpm) h0.row G1 hb1 (e ▸ hv)
    rcases hg with ⟨e2, -⟩ | ⟨e2, hgn⟩
    · obtain ⟨G2, c3, hv2, hb2, -, hcell2⟩ := own_cell hnewR (by omega)
      rw [hb1] at e2
      have : G2 = G1 := by rw [hb2] at e2; injection e2
      subst this
      exact hcell2 j _ (by rw [List.getElem?_append_left (by simpa using hj)]; simp [hx, BV.val])
    · have h5 := hcell j x.val (by simp [hx])
      have h6 : w1.cell? ⟨G1, j, none⟩ = w.cell? ⟨G1, j, none⟩ := World.cell?_of_block (w := w) (hgn.block G1 (own_ltH (h0.rr p hpm) G1 hb1) (by simp))
      rw [← h6] at h5
      exact hkG.cell h5 hG1
end
end Go.Proofs.YtibalgfejfjndaaGreatDoor
end
