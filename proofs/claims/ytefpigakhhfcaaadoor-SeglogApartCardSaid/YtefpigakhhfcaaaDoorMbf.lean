import Derived.Test.YtefpigakhhfcaaaDoorMbe
import Derived.Test.YtefpigakhhfcaaaDoorMbb
import Derived.Laws.Bits64
/-! seglog.firsts: the first offsets of the segments that lie there. -/
section
set_option linter.unusedVariables false
set_option linter.unusedSimpArgs false
namespace Go.Proofs.YtefpigakhhfcaaaDoor
open Go.RowKit Go.Sort
attribute [local go_sem] Oper.semAt_some

theorem infoU64 : (Tryd.prog.info? 23).map (fun i => (i.zero, i.size, i.bytes)) = some (some (.int .u64 0), 1, 8) := by kernel_rfl
def uV (v : Nat) : Value := .int .u64 (v : Nat)
theorem size_dotS (nm : ByteArray) : (nm ++ (⟨#[46, 115]⟩ : ByteArray)).size = nm.size + 2 := by rw [ByteArray.size_append]; rfl
theorem ahead_iff (nm : ByteArray) (x : List UInt8) : Ahead ⟨x.toArray⟩ (nm ++ ⟨#[46, 115]⟩) ↔ nm.data.toList ++ [46, 115] = x.take (nm.data.toList.length + 2) := by
  have h1 : (nm ++ (⟨#[46, 115]⟩ : ByteArray)).data.toList = nm.data.toList ++ [46, 115] := by simp
  have h2 : ((⟨x.toArray⟩ : ByteArray).extract 0 (nm ++ (⟨#[46, 115]⟩ : ByteArray)).size).data.toList = x.take (nm.data.toList.length + 2) := by
    rw [size_dotS, ByteArray.data_extract]
    simp
  have h3 : (⟨x.toArray⟩ : ByteArray).size = x.length := by show x.toArray.size = _; simp
  have h4 : nm.size = nm.data.toList.length := by rw [Array.length_toList]; rfl
  unfold Ahead
  constructor
  · rintro ⟨-, h⟩
    rw [← h1, ← h2, h]
  · intro h
    refine ⟨?_, ByteArray.ext (Array.toList_inj.1 (by rw [h2, h1, h]))⟩
    have := congrArg List.length h
    simp only [List.length_append, List.length_take, List.length_cons, List.length_nil] at this
    rw [size_dotS, h3]
    omega
theorem picks_none {nm x : List UInt8} {pre : List (List UInt8)} (h : unname nm x = none) : picks nm (pre ++ [x]) = picks nm pre := by simp [picks, h]
theorem picks_some {nm x : List UInt8} {pre : List (List UInt8)} {v : Nat} (h : unname nm x = some v) : picks nm (pre ++ [x]) = picks nm pre ++ [v] := by simp [picks, h]
theorem orAdd4 (x y z : Nat) (hz : z = y * 16) (hx : x < 16) (h : z + x < 18446744073709551616) : bits .or .u64 (z : Int) (x : Int) = ((z + x : Nat) : Int) := by
  have h1 : (BitVec.ofInt 64 (x : Int)).toNat = x := by
    rw [BitVec.ofInt_natCast, BitVec.toNat_ofNat]; exact Nat.mod_eq_of_lt (by omega)
  have h2 : (BitVec.ofInt 64 (z : Int)).toNat = z := by
    rw [BitVec.ofInt_natCast, BitVec.toNat_ofNat]; exact Nat.mod_eq_of_lt (by omega)
  have h3 : z ||| x = z + x := by
    subst hz
    have := Nat.two_pow_add_eq_or_of_lt (i := 4) (b := x) hx y
    rw [Nat.mul_comm y, show (16 : Nat) = 2 ^ 4 from rfl, ← this]
  show IntKind.u64.wrap ((BitVec.ofInt 64 (z : Int) ||| BitVec.ofInt 64 (x : Int)).toNat : Int) = _
  rw [BitVec.toNat_or, h1, h2, h3, IntKind.wrap_u64]
  omega
theorem valL_take {l : List UInt8} {j z : Nat} {c : UInt8} (h : valL 0 (l.take j) = some z) (hc : l[j]? = some c) : valL 0 (l.take (j + 1)) = match dig c with
    | none => none
    | some d => some (z * 16 + d) := by
  rw [List.take_add_one, hc, Option.toList_some, valL_append, h]
  simp only [Option.bind_some, valL]
  cases dig c <;> rfl
theorem valL_none {l : List UInt8} {j : Nat} (h : valL 0 (l.take j) = none) : valL 0 l = none := by
  have : l = l.take j ++ l.drop j := (List.take_append_drop j l).symm
  rw [this, valL_append, h]
  rfl
/-- What is held from round to round. -/
structure FrI (nm : ByteArray) (w W : World) (O D : Nat) (fs : List Nat) : Prop where
  b0 : Boxed W O 9 (.string nm)
  b1 : ∃ v, Boxed W (O + 1) 37 v ∧ W.ownsRow (D + 2) 23 1 v fs.length (fs.map uV)
  kept : Kept (fun _ => False) w W
theorem FrI.carry {nm : ByteArray} {w W W' : World} {O D : Nat} {fs : List Nat} (h : FrI nm w W O D fs) (hk : Kept (fun k => False ∨ k = D ∨ k = D + 1) W W') (hO : O = w.heap.size) (hD : O + 2 ≤ D) : FrI nm w W' O D fs := by
  have no : ∀ k, k < D → ¬ (False ∨ k = D ∨ k = D + 1) := by rintro k hk (h | h | h) <;> first | exact h.elim | omega
  obtain ⟨v, hv, ho⟩ := h.b1
  refine ⟨hk.heap h.b0 (no _ (by omega)), ⟨v, hk.heap hv (no _ (by omega)), own_kept ho hk fun k e => ?_⟩, h.kept.trans hk fun i hi hm => absurd hm (no i (by omega))⟩
  have := own_ge ho k e
  rintro (h | h | h) <;> first | exact h.elim | omega
def FirstsPost (w : World) (fs : List Nat) (e : Ending) (w' : World) : Prop := ∃ v, e = .returned v ∧ w'.ownsRow w.heap.size 23 1 v fs.length (fs.map uV) ∧ Kept (fun _ => False) w w'
set_option maxRecDepth 100000 in
set_option maxHeartbeats 4000000 in
theorem slFirsts_any (w : World) (F M : Nat) (ps : List PF) (clock : Nat) (lim arm : Int) (dn : Bool) (nm : ByteArray) (h : FilesAt w F M ps clock lim arm dn) (hn : ps.length ≤ 100000) (hm : ∀ p ∈ ps, p.name.size ≤ 1000000) (hnm : nm.size ≤ 1000000) :
    Calls Tryd.prog 24 #[.pointer (some ⟨F, 0, none⟩), .string nm] w (FirstsPost w (picks nm.data.toList (sortN ps))) := by
  refine calls_of_marks Tryd.func24 rfl ?_
  simp only [Tryd.ntmps24, List.size_toArray, List.length_cons, List.length_nil, Nat.reduceAdd, Nat.reduceSub, Array.replicate_succ, Array.replicate_zero, List.push_toArray, List.append_toArray, List.nil_append, List.cons_append]
  obtain ⟨i0, hi, hz0, hz1, hz2⟩ := info_parts infoU64
  obtain ⟨W1, hW1⟩ : ∃ W1, W1 = (w.alloc (.cells #[.string nm] 9)).alloc (.cells #[.slice none 0 0] 37) := ⟨_, rfl⟩
  obtain ⟨O, hO⟩ : ∃ O, O = w.heap.size := ⟨_, rfl⟩
  have hk1 : Kept (fun _ => False) w W1 := by rw [hW1]; exact ((Kept.refl _ w).alloc _).alloc _
  have hb0 : Boxed W1 O 9 (.string nm) := by rw [hW1, hO]; exact (Boxed.new w _ _).alloc _
  have hb1 : Boxed W1 (O + 1) 37 (.slice none 0 0) := by
    have := Boxed.new (w.alloc (.cells #[.string nm] 9)) 37 (.slice none 0 0)
    rw [hW1, hO]; simpa using this
  have hsz1 : W1.heap.size = O + 2 := by rw [hW1, hO]; simp
  have HLi := Lib.hid (list_any W1 F M ps clock lim arm dn (h.kept hk1 (by simp)) (by omega) hm)
  have HW1 := Lib.hid hW1
  have HO := Lib.hid hO
  have Hk1 := Lib.hid hk1
  have Hb0 := Lib.hid hb0
  have Hb1 := Lib.hid hb1
  have Hsz1 := Lib.hid hsz1
  have Hn := Lib.hid hn
  have HM := Lib.hid hm
  clear hW1 hO hk1 hb0 hb1 hsz1 h hm hn
  go_wp2_with fail
  go_step3
  go_wp2_with fail
  go_step3
  rw [← HW1.out, ← HO.out]
  go_wp2_with (go_at_call 45; refine HLi.out.mono ?_; rintro e W2 ⟨B0, A0, c0, rfl, hB0, hSs, hA0, hBl, hk2⟩; have HB0 := Lib.hid hB0; have HSs := Lib.hid hSs; have HA0 := Lib.hid hA0; have HBl := Lib.hid hBl; have HK2 := Lib.hid hk2; clear hB0 hSs hA0 hBl hk2)
  obtain ⟨L, hL⟩ : ∃ L, L = sortN ps := ⟨_, rfl⟩
  have hLn : L.length ≤ 100000 := by
    rw [hL]
    have := (sortN_perm ps).length_eq
    simp only [namesL, List.length_map] at this
    have := Hn.out
    omega
  have hLm : ∀ x ∈ L, x.length ≤ 1000000 := fun x hx => by
    rw [hL] at hx
    have := (sortN_perm ps).mem_iff.1 hx
    obtain ⟨p, hp, rfl⟩ := List.mem_map.1 this
    have := HM.out p hp
    rw [Array.length_toList]; exact this
  rw [← hL] at HB0 HSs ⊢
  have HLn := Lib.hid hLn
  have HLm := Lib.hid hLm
  have hit := values_iter B0 L.length c0 A0 L W2 HB0.out rfl (by omega) HSs.out (fun ad e => (HA0.out ad e).2)
  have hfr : FrI nm w W2 O W2.heap.size [] := ⟨HK2.out.heap Hb0.out (by simp), ⟨_, HK2.out.heap Hb1.out (by simp), World.ownsRow_nil _ _ _ _⟩, Hk1.out.trans' HK2.out⟩
  have hsz2 : O + 2 ≤ W2.heap.size := by have := Hsz1.out; have := HK2.out.size; omega
  have HSz2 := Lib.hid hsz2
  have HL := Lib.hid hL
  clear hL hLn hLm HLi HW1
  refine wp_range (gf := 68) rfl (enters_of Tryd.func68 (by kernel_rfl) rfl) hit (fun x => rfl) (fun k h => h.elim) (fun k ⟨ad, e, e2⟩ => by rw [← e2]; exact (HA0.out ad e).2)
    (fun pre W => FrI nm w W O W2.heap.size (picks nm.data.toList pre))
    (fun c pre W => False)
    (fun pre A C h hk => h.carry hk HO.out HSz2.out)
    (fun c pre A C h hk => h.elim) hfr (fun x => { tmps := #[.pointer (some ⟨F, 0, none⟩), .string nm, undef, .pointer (some ⟨O, 0, none⟩), .slice none 0 0, .pointer (some ⟨O + 1, 0, none⟩), .string ⟨x.toArray⟩, undef, undef, undef, undef, undef, .pointer (some ⟨F, 0, none⟩), .func (.func 68) #[] #[.pointer (some ⟨B0, 0, none⟩)], .string ⟨x.toArray⟩, undef, undef, undef, undef, undef, undef, undef, undef, undef, undef, undef, undef, undef, undef, undef, undef, undef, undef, undef, undef, undef, undef, undef, undef, undef, undef, undef, undef, undef, undef, undef, undef, undef, undef, undef, undef], defers := [] }) ?assign ?body ?done ?stop
  case assign =>
    intro l x W K hK
    gi_wp2
    exact hK
  case body =>
    rintro l pre x post W hxs hI hsz2
    have hxm : x ∈ L := by rw [hxs]; simp
    have hxl := HLm.out x hxm
    have hb0 := hI.b0.cell
    have hs3 : ¬ 9223372036854775807 < nm.size + 2 := by omega
    have hsx : (⟨x.toArray⟩ : ByteArray).size = x.length := by show x.toArray.size = _; simp
    have HI := Lib.hid hI
    have HSz := Lib.hid hsz2
    have HXs := Lib.hid hxs
    clear hI hsz2 hit hfr hxm
    by_cases ha : nm.data.toList ++ [46, 115] = x.take (nm.data.toList.length + 2)
    rotate_left
    · have hun : picks nm.data.toList (pre ++ [x]) = picks nm.data.toList pre := picks_none (if_neg fun h => ha h.1)
      have HC := Lib.hid (cutPrefix_no ⟨x.toArray⟩ (nm ++ ⟨#[46, 115]⟩) W (by rw [hsx]; omega) (by rw [size_dotS]; omega) (by rw [ahead_iff]; exact ha))
      have Hun := Lib.hid hun
      clear ha hun hsx
      gi_wp2_with ((refine ⟨trivial, ?_⟩; gi_at_call 46; refine (CallsIn.inRound l (callsIn_wide.2 HC.out)).mono ?_; rintro e w9 ⟨rfl, rfl⟩))
      exact ⟨⟨Nat.le_refl _, fun k hk => rfl⟩, by show FrI nm w _ O W2.heap.size (picks nm.data.toList (pre ++ [x])); rw [Hun.out]; exact HI.out⟩
    obtain ⟨R, hR⟩ : ∃ R, R = (⟨x.toArray⟩ : ByteArray).extract (nm ++ (⟨#[46, 115]⟩ : ByteArray)).size (⟨x.toArray⟩ : ByteArray).size := ⟨_, rfl⟩
    have hRl : R.data.toList = x.drop (nm.data.toList.length + 2) := by
      rw [hR, size_dotS, hsx, ByteArray.data_extract]
      simp only [Array.toList_extract, List.extract_eq_take_drop, Array.length_toList]
      exact List.take_of_length_le (by simp)
    have hRz : R.size = x.length - (nm.size + 2) := by
      have h1 : R.size = R.data.toList.length := by rw [Array.length_toList]; rfl
      rw [h1, hRl, List.length_drop]
      rfl
    have hC := cutPrefix_yes ⟨x.toArray⟩ (nm ++ ⟨#[46, 115]⟩) W (by rw [hsx]; omega) (by rw [ahead_iff]; exact ha)
    rw [← hR] at hC
    have HC := Lib.hid hC
    have HRl := Lib.hid hRl
    have hxn : nm.size + 2 ≤ x.length := by
      have := congrArg List.length ha
      simp only [List.length_append, List.length_take, List.length_cons, List.length_nil] at this
      have h4 : nm.size = nm.data.toList.length := by rw [Array.length_toList]; rfl
      omega
    have Ha := Lib.hid ha
    clear hC hR hRl hsx ha
    by_cases h16 : R.size = 16
    rotate_left
    · have h16' : ¬ ((R.size : Nat) : Int) = 16 := by omega
      have hun : picks nm.data.toList (pre ++ [x]) = picks nm.data.toList pre := picks_none (if_neg fun h => by
        have h4 : nm.size = nm.data.toList.length := by rw [Array.length_toList]; rfl
        have := h.2; omega)
      have Hun := Lib.hid hun
      clear hun hRz hxn h16
      gi_wp2_with ((refine ⟨trivial, ?_⟩; gi_at_call 46; refine (CallsIn.inRound l (callsIn_wide.2 HC.out)).mono ?_; rintro e w9 ⟨rfl, rfl⟩))
      exact ⟨⟨Nat.le_refl _, fun k hk => rfl⟩, by show FrI nm w _ O W2.heap.size (picks nm.data.toList (pre ++ [x])); rw [Hun.out]; exact HI.out⟩
    clear hRz
    have hlen : x.length = nm.data.toList.length + 18 := by
      have h1 : R.size = R.data.toList.length := by rw [Array.length_toList]; rfl
      have h2 := congrArg List.length HRl.out
      rw [List.length_drop] at h2
      have h4 : nm.size = nm.data.toList.length := by rw [Array.length_toList]; rfl
      omega
    have HLen := Lib.hid hlen
    clear hlen hxn
    gi_wp2_with ((refine ⟨trivial, ?_⟩; gi_at_call 46; refine (CallsIn.inRound l (callsIn_wide.2 HC.out)).mono ?_; rintro e w9 ⟨rfl, rfl⟩))
    gi_loopw [9, 10, 11, 31] (fun u _ _ i wr => ∃ j z : Nat, i = .int .i64 j ∧ u = .int .u64 z ∧ j ≤ 16 ∧ Hid (valL 0 (R.data.toList.take j) = some z ∧ z < 16 ^ j) ∧ wr = w9) (fun _ _ _ i _ => 16 - iNat i)
    case atStart => exact ⟨0, 0, rfl, rfl, by omega, Lib.hid ⟨rfl, by decide⟩, rfl⟩
    case round =>
      obtain ⟨j, z, rfl, rfl, hj, hz, rfl⟩ := hrel
      by_cases hlt : j < 16
      · have hj9 : (j : Int) < 16 := by omega
        have hjR : j < R.size := by omega
        obtain ⟨c, hc⟩ : ∃ c : UInt8, c = R[j]'hjR := ⟨_, rfl⟩
        have hc2 : R.data.toList[j]? = some c := by rw [Lib.data_getElem? R j hjR, hc]
        have hI2 : ∀ W, Calls Tryd.prog 47 #[.string ⟨#[48, 49, 50, 51, 52, 53, 54, 55, 56, 57, 97, 98, 99, 100, 101, 102]⟩, .int .u8 ((R[j]'hjR).toNat : Nat)] W fun e w' => e = .returned (.int .i64 (digI c)) ∧ w' = W := fun W => by rw [← hc]; exact indexDigit_any c W
        have hz15 : z < 1152921504606846976 := Nat.lt_of_lt_of_le hz.out.2 (Nat.le_trans (Nat.pow_le_pow_right (by decide) (show j ≤ 15 by omega)) (by decide))
        have HV := Lib.hid (valL_take hz.out.1 hc2)
        clear hc hc2
        cases hd : dig c with
        | none =>
          have hdi : digI c = -1 := by unfold digI; rw [hd]
          rw [hdi] at hI2
          have HI2 := Lib.hid hI2
          rw [hd] at HV
          have hun : picks nm.data.toList (pre ++ [x]) = picks nm.data.toList pre := picks_none (by
            unfold unname
            rw [if_pos ⟨Ha.out, HLen.out⟩, ← HRl.out]
            exact valL_none HV.out)
          have Hun := Lib.hid hun
          clear hun hd hdi hI2 HV hz15
          gi_wp2_with ((refine ⟨trivial, ?_⟩; gi_at_call 47; refine (CallsIn.inRound l (callsIn_wide.2 (HI2.out _))).mono ?_; rintro e w8 ⟨rfl, rfl⟩))
          exact ⟨⟨Nat.le_refl _, fun k hk => rfl⟩, by show FrI nm w _ O W2.heap.size (picks nm.data.toList (pre ++ [x])); rw [Hun.out]; exact HI.out⟩
        | some d =>
          have hdi : digI c = d := by unfold digI; rw [hd]
          rw [hdi] at hI2
          have HI2 := Lib.hid hI2
          rw [hd] at HV
          have hd16 := dig_lt hd
          obtain ⟨z2, hz2⟩ : ∃ z2, z2 = z * 16 := ⟨_, rfl⟩
          have hsh : Op.shift .shl .u64 (z : Int) .u64 (4 : Int) = pure (.int .u64 (z2 : Nat)) := by
            rw [shift_shl_any _ _ _ _ (by omega)]
            have h9 : ((z : Int)) * 2 ^ min ((4 : Int)).toNat 64 = (z2 : Int) := by rw [show min ((4 : Int)).toNat 64 = 4 from rfl, hz2]; omega
            rw [show IntKind.u64.bits = 64 from rfl, h9, IntKind.wrap_u64]
            congr 2
            omega
          obtain ⟨y, hy⟩ : ∃ y, y = z2 + d := ⟨_, rfl⟩
          have hor : bits .or .u64 (z2 : Int) (d : Int) = (y : Int) := by
            rw [orAdd4 d z z2 hz2 hd16 (by omega), hy]
          have hwd : IntKind.u64.wrap (d : Int) = (d : Int) := by rw [IntKind.wrap_u64]; omega
          have HY : Hid (valL 0 (R.data.toList.take (j + 1)) = some y ∧ y < 16 ^ (j + 1)) := Lib.hid ⟨by rw [HV.out, hy, hz2], by have := hz.out.2; rw [Nat.pow_succ]; omega⟩
          have hd0 : ¬ (d : Int) < 0 := by omega
          clear hd hdi hI2 HV hz15 hz2 hy hd16
          gi_wp2_with ((refine ⟨trivial, ?_⟩; gi_at_call 47; refine (CallsIn.inRound l (callsIn_wide.2 (HI2.out _))).mono ?_; rintro e w8 ⟨rfl, rfl⟩))
          go_roundw
          case rel => exact ⟨j + 1, y, by go_num, rfl, by omega, HY, trivial⟩
          case measure => simp only [iNat]; omega
      · obtain rfl : j = 16 := by omega
        have hj9 : ¬ ((16 : Nat) : Int) < 16 := by omega
        have hun : unname nm.data.toList x = some z := by
          unfold unname
          rw [if_pos ⟨Ha.out, HLen.out⟩, ← HRl.out]
          have h1 := hz.out.1
          rwa [List.take_of_length_le (by have h2 : R.size = R.data.toList.length := by rw [Array.length_toList]; rfl
                                          omega)] at h1
        have Hun := Lib.hid (picks_some (pre := pre) hun)
        obtain ⟨fs, hfs⟩ : ∃ fs, fs = picks nm.data.toList pre := ⟨_, rfl⟩
        rw [← hfs] at HI Hun
        have hfl : fs.length ≤ 100000 := by
          rw [hfs]
          have h1 : (picks nm.data.toList pre).length ≤ pre.length := by unfold picks; exact List.length_filterMap_le _ _
          have h2 := congrArg List.length HXs.out
          simp at h2
          have := HLn.out
          omega
        obtain ⟨v, hv, ho⟩ := HI.out.b1
        obtain ⟨k, hk⟩ : ∃ k, k = fs.length := ⟨_, rfl⟩
        rw [← hk] at ho hfl
        have c1 := hv.cell
        have f1 := hv.frozen
        have HV := Lib.hid hv
        have HO2 := Lib.hid ho
        have Hk := Lib.hid hk
        have hge : ∀ q, v.ownBlock = some q → W2.heap.size + 2 ≤ q := own_ge ho
        have HGe := Lib.hid hge
        have Hfl := Lib.hid hfl
        clear hun hfs hfl hv ho hk hge
        gi_wp2_with (gi_at_builtin; refine wpListIn_append_own _ rfl _ _ 37 rfl (W2.heap.size + 2) 23 i0 (.int .u64 0) 1 8 Tryd.underlying37 hi hz0 hz1 hz2 rfl (by decide) _ k _ rfl (own_kept HO2.out ((Kept.refl (fun _ => False) wr).alloc _) (by simp)) _ 1 1 [.int .u64 (z : Nat)] rfl rfl ((cs_new wr [.int .u64 (z : Nat)] 23).2 _ rfl) (by simp [Value.oneCell']) (by have := Hfl.out; unfold maxLen; omega) (by have := Hfl.out; omega) (by have := HSz.out; simp; omega) ?_; intro v' w1 hown hgrow hnil; obtain ⟨A', c', rfl⟩ := own_slice hown; have HN := Lib.hid hown; have HK1 : Hid (Kept (fun q => v.ownBlock = some q) wr w1) := Lib.hid ((((Kept.refl (fun q => v.ownBlock = some q) wr).alloc _)).grown hgrow (fun q e _ => e)); have HB1 : Hid (Boxed w1 (O + 1) 37 _) := Lib.hid (HK1.out.heap HV.out (fun e => by have := HGe.out _ e; have := HSz2.out; omega)); have g1 := Boxed.cell HB1.out; have fz1 := Boxed.frozen HB1.out; clear hown hgrow hnil)
        have hk3 := kF w1 (O + 1) 0 (.slice A' (k + 1) c')
        have hkk : Kept (fun q => v.ownBlock = some q ∨ q = O + 1) wr (w1.setCell ⟨O + 1, 0, none⟩ (.slice A' (k + 1) c')) := (HK1.out.mono fun q _ e => .inl e).trans' (hk3.mono fun q _ e => .inr e)
        have hz2 := HSz2.out
        have hz1 := HSz.out
        have no : ∀ q, q < O + 1 → ¬ (v.ownBlock = some q ∨ q = O + 1) := fun q hq h => h.elim (fun e => by have := HGe.out _ e; omega) (fun e => by omega)
        refine ⟨⟨hkk.size, fun q hq => ?_⟩, ?_⟩
        · have hq3 : ¬ (v.ownBlock = some q ∨ q = O + 1) := fun h => by
            rcases h with h | h
            · have h1 := HGe.out _ h
              rcases hq with ⟨ad, e, e2⟩ | hq | hq
              · have := (HA0.out ad e).2; omega
              · omega
              · omega
            · rcases hq with ⟨ad, e, e2⟩ | hq | hq
              · have := (HA0.out ad e).1; have := Hsz1.out; omega
              · omega
              · omega
          refine hkk.block q ?_ hq3
          rcases hq with ⟨ad, e, e2⟩ | hq | hq
          · have := (HA0.out ad e).2; omega
          · omega
          · omega
        · show FrI nm w _ O W2.heap.size (picks nm.data.toList (pre ++ [x]))
          rw [Hun.out]
          refine ⟨hkk.heap HI.out.b0 (no _ (by omega)), ⟨_, HB1.out.set _, ?_⟩, HI.out.kept.trans hkk fun q hq h => absurd h (no q (by have := HO.out; omega))⟩
          have h3 := HN.out
          rw [Hk.out, show [Value.int .u64 (z : Nat)] = [z].map uV from rfl, ← List.map_append] at h3
          rw [List.length_append, List.length_singleton]
          rw [← Hk.out] at h3 ⊢
          refine own_kept h3 hk3 fun q e e2 => ?_
          have := own_ge h3 q e
          omega
  case done =>
    rintro W hI hD
    obtain ⟨v, hv, ho⟩ := hI.b1
    obtain ⟨Av, cv, rfl⟩ := own_slice ho
    have c1 := hv.cell
    have HD := Lib.hid hD
    have HI := Lib.hid hI
    have HO2 := Lib.hid ho
    clear hI hv ho hD hit hfr
    go_wp2
    rw [Exit.noGoto_ret]
    have hz2 := HSz2.out
    have hge := own_ge HO2.out
    have ho := HO.out
    obtain rfl := HL.out
    refine leave_mark HD.out (v := .slice Av (picks nm.data.toList (sortN ps)).length cv) (show _ = Result.ok _ _ from results_tmp (t := 4) rfl _ _ _) ⟨_, rfl, ?_, ?_⟩
    · exact own_weak (b := W2.heap.size + 2) (by omega) (own_kept HO2.out (putObj_kept W W2.heap.size (.deferred none)) fun q e e2 => by have := hge q e; omega)
    · exact HI.out.kept.trans (putObj_kept W W2.heap.size (.deferred none)) fun i hi e => by omega
  case stop =>
    rintro c pre W hpre h
    exact h.elim
end Go.Proofs.YtefpigakhhfcaaaDoor
end
