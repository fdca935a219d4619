/-
  courantlaw16.FilesRoom, walked.
-/
import Derived.Test.YthkncfdgfbnchaaDoorE1
import Derived.Deep.Cut
import Derived.ProofKit
import Derived.Below
import Derived.Laws.MakeOwn
import Derived.Laws.OwnMore
set_option linter.unusedVariables false
set_option linter.unusedSimpArgs false
namespace Go.Proofs.YthkncfdgfbnchaaDoor
open Go.RowKit

/-- A slice of integers that came in. -/
def IsRow (k : IntKind) (w : World) (a : Option Addr) (len cap : Nat) (zs : List Int) : Prop :=
  (a = none ∧ len = 0 ∧ cap = 0 ∧ zs = []) ∨
  ∃ x, a = some x ∧ len ≤ cap ∧ cap ≤ maxLen ∧ zs.length = cap ∧ (∀ i, i < zs.length → w.cell? (x.add i) = some (.int k (zs.getD i 0))) ∧ ∀ n ∈ zs, (Lit.int k n).wf = true
def iN : Value → Nat
  | .int _ x => x.toNat
  | _ => 0
theorem modN_r (m x : Int) (hm : 0 < m) (hm2 : m ≤ 1000000) : 0 ≤ wrap64 ((IntKind.u64.wrap x).tmod m) ∧ wrap64 ((IntKind.u64.wrap x).tmod m) < m := by
  have h0 : 0 ≤ IntKind.u64.wrap x := by
    simp only [IntKind.wrap]
    first | exact Int.emod_nonneg _ (by decide) | (split <;> first | omega | (exact Int.emod_nonneg _ (by decide))) | omega
  have h1 := Int.tmod_nonneg m h0
  have h2 := Int.tmod_lt_of_pos (IntKind.u64.wrap x) hm
  have h3 : wrap64 ((IntKind.u64.wrap x).tmod m) = (IntKind.u64.wrap x).tmod m := by
    unfold wrap64
    omega
  rw [h3]
  exact ⟨h1, h2⟩
def mk0 (N : Nat) : List UInt8 := List.replicate N 0
theorem make_run (W : World) (N : Nat) (hN : N < 800) : (Instr.makeSlice 29 (.int .i64 (N : Int)) (.int .i64 (N : Int))).run Tryd.prog W = .ok (.slice (some ⟨W.heap.size, 0, none⟩) N N) (W.alloc (.cells ((mk0 N).map bv).toArray 5)) := by
  obtain ⟨i0, hi, hz0, hz1, hz2⟩ := info_parts infoU8
  have := run_makeSlice (P := Tryd.prog) W 29 5 i0 (.int .u8 0) Tryd.underlying29 hi hz0 .i64 .i64 (N : Int) (N : Int) (by omega) (Int.le_refl _) (by rw [hz1]; simp; omega) (by rw [hz2]; omega) (by omega)
  rw [this]
  have e : madeCells (Value.int .u8 0).cells ((N : Int).toNat * i0.size) = ((mk0 N).map bv).toArray := by
    apply Array.ext'
    rw [hz1, show (Value.int .u8 0).cells = #[.int .u8 0] from rfl, toList_madeCells_one]
    simp [mk0, bv]
  rw [e]
  simp
theorem mk0_len (N : Nat) : (mk0 N).length = N := by simp [mk0]
theorem used_room {w W : World} {F M : Nat} {ps : List PF} {clock : Nat} {lim : Int} {ys : List UInt8} {m : Bool} (V : Int) (h : Room w W F M ps clock lim) (ho : One ps ys m) (hV : (ys.length : Int) = V) (hu : V ≤ 1000000000) :
    Calls Tryd.prog 14 #[.pointer (some ⟨F, 0, none⟩)] W fun e w' => e = .returned (.int .i64 V) ∧ Room w w' F M ps clock lim := by
  subst hV
  exact (used_one W ps clock lim F M ys m h.at_ ho (by omega)).mono fun e w' ⟨he, hk⟩ => ⟨he, h.stay hk⟩
set_option maxRecDepth 100000 in
set_option maxHeartbeats 2000000 in
theorem room_some (lim : Int) (x : Addr) (len cap : Nat) (zs : List Int) (w : World) (hl : len ≤ cap) (hm : cap ≤ maxLen) (hz : zs.length = cap) (hc : Hid (∀ i, i < zs.length → w.cell? (x.add i) = some (.int .i64 (zs.getD i 0)))) :
    Calls Tryd.prog 3 #[.int .i64 lim, .slice (some x) len cap] w fun e w' => e = .returned (.bool true) ∧ Kept (fun _ => False) w w' := by
  have Hz := Lib.hid hz
  have hlm : (len : Int) ≤ 9223372036854775807 := by unfold maxLen at hm; omega
  clear hz
  go_enter Tryd.func3, Tryd.ntmps3
  go_upto_region 2 with fail
  have HL := Lib.hid (modN_r 5000 lim (by decide) (by decide))
  obtain ⟨L, hL⟩ : ∃ L, L = wrap64 ((IntKind.u64.wrap lim).tmod 5000) := ⟨_, rfl⟩
  rw [← hL] at HL ⊢
  obtain ⟨LN, hLN⟩ : ∃ LN : Nat, L = LN := ⟨L.toNat, by have := HL.out; omega⟩
  subst hLN
  have hLN : LN < 5000 := by have := HL.out; omega
  have HN := Lib.hid (new_room w (LN : Int))
  have HB : Hid (boundI (LN : Int) = LN) := Lib.hid (by unfold boundI; split; omega; rw [if_neg (by omega)])
  rw [HB.out] at HN
  clear hL
  go_wp2_with (first
    | (go_at_call 10; refine HN.out.mono ?_; rintro e w1 ⟨F, M, rfl, hr⟩; have HR := Lib.hid hr; clear hr)
    | (go_at_call 11; refine (awake_any _).mono ?_; rintro e w2 ⟨rfl, hk⟩; have HR2 := Lib.hid (HR.out.stay hk); clear hk))
  go_loopw [6, 7, 8, 9] (fun u i _ _ wr => ∃ (U I : Nat) (ps : List PF) (clock : Nat) (m : Bool) (ys : List UInt8), u = .int .i64 U ∧ i = .int .i64 I ∧ I ≤ 40 ∧ U ≤ LN ∧ Hid (U = ys.length) ∧ Hid (Room w wr F M ps clock LN) ∧ Hid (One ps ys m)) (fun _ i _ _ _ => 40 - iN i)
  case atStart => exact ⟨0, 0, [], 0, false, [], rfl, rfl, by omega, by omega, Lib.hid rfl, HR2, Lib.hid (.inl ⟨rfl, rfl, rfl⟩)⟩
  case round =>
    obtain ⟨U, I, ps, clock, m, ys, rfl, rfl, hI, hU, hUy, hR, hO⟩ := hrel
    by_cases h1 : I < len
    · by_cases h2 : I < 40
      · have hcr := hR.out.kept.cell (hc.out I (by have := Hz.out; omega)) (by simp)
        generalize zs.getD I 0 = X at hcr
        go_upto_region 10 with fail
        have HNr := Lib.hid (modN_r 800 X (by decide) (by decide))
        obtain ⟨N0, hN0⟩ : ∃ L, L = wrap64 ((IntKind.u64.wrap X).tmod 800) := ⟨_, rfl⟩
        rw [← hN0] at HNr ⊢
        obtain ⟨N, hN⟩ : ∃ N : Nat, N0 = N := ⟨N0.toNat, by have := HNr.out; omega⟩
        subst hN
        have hN8 : N < 800 := by have := HNr.out; omega
        clear hN0
        have hmk := make_run wr N hN8
        obtain ⟨W1, hW1⟩ : ∃ W1, W1 = wr.alloc (.cells ((mk0 N).map bv).toArray 5) := ⟨_, rfl⟩
        have HR1 : Hid (Room w W1 F M ps clock LN) := Lib.hid (by rw [hW1]; exact hR.out.stay ((Kept.refl _ wr).alloc _))
        have HBs : Hid (Bs W1 (some ⟨wr.heap.size, 0, none⟩) (mk0 N)) := Lib.hid (by rw [hW1]; exact bs_new wr (mk0 N) _ rfl 5)
        have HM : Hid (wr.heap.size ≠ M) := Lib.hid hR.out.ne
        rw [← hW1] at hmk
        have hUz : Hid (ys.length = U) := Lib.hid hUy.out.symm
        clear hW1
        by_cases hf : 0 < N ∧ LN < U + N
        · have hg1 : (0 : Int) < (N : Int) := by omega
          have hg2 : (LN : Int) < (U : Int) + (N : Int) := by omega
          have HA := Lib.hid (append_full ⟨#[97]⟩ (some ⟨wr.heap.size, 0, none⟩) N N W1 F M LN 0 ps clock (by decide) (by kernel_rfl) HR1.out.at_ (by rw [hO.out.used, hUz.out]; omega) hf.1 (by omega) (by rw [hO.out.used, hUz.out]; omega))
          clear hf
          by_cases h3 : I % 3 = 2
          · have hg3 : (I : Int) % 3 = 2 := by omega
            by_cases h4 : 0 < U
            · have hg4 : (0 : Int) < (U : Int) := by omega
              have hm : m = true := by
                rcases hO.out with ⟨_, hy, _⟩ | ⟨_, _, _, _, hm⟩
                · have := hUz.out; rw [hy] at this; simp at this; omega
                · exact hm
              subst hm
              go_wp2_with (first
                | (go_at_call 12; refine HA.out.mono ?_; rintro e w3 ⟨rfl, hk⟩; have HR3 := Lib.hid (HR1.out.stay hk); have HT := Lib.hid (trunc_one w3 ps clock LN F M (U / 2) ys HR3.out.at_ hO.out (by rw [hUz.out]; omega)); rw [show ((U / 2 : Nat) : Int) = (U : Int) / 2 by omega] at HT; clear hk)
                | (go_at_call 13; refine HT.out.mono ?_; rintro e w4 ⟨ps4, cl4, rfl, hw4, ho4⟩; have HR4 := Lib.hid (HR3.out.step hw4); have HO4 := Lib.hid ho4; have HL4 := Lib.hid (show (ys.take (U / 2)).length = U / 2 by rw [List.length_take, hUz.out]; omega); have HU4 := Lib.hid (used_room ((U : Int) / 2) HR4.out ho4 (by rw [HL4.out]; omega) (by omega)); clear hw4 ho4)
                | (go_at_call 14; refine HU4.out.mono ?_; rintro e w5 ⟨rfl, hr5⟩; have HR5 := Lib.hid hr5; clear hr5))
              go_roundw
              case rel => exact ⟨U / 2, I + 1, ps4, cl4, true, ys.take (U / 2), congrArg (Value.int .i64) (by omega), congrArg (Value.int .i64) (by omega), by omega, by omega, Lib.hid (by rw [HL4.out]), HR5, HO4⟩
              case measure => simp only [iN]; omega
            · have hg4 : ¬ (0 : Int) < (U : Int) := by omega
              have HUU : Hid (∀ W, Room w W F M ps clock LN → _) := Lib.hid fun W h => used_room (U : Int) h hO.out (by rw [hUz.out]) (by omega)
              go_wp2_with (first
                | (go_at_call 12; refine HA.out.mono ?_; rintro e w3 ⟨rfl, hk⟩; have HR3 := Lib.hid (HR1.out.stay hk); clear hk)
                | (go_at_call 14; refine (HUU.out _ HR3.out).mono ?_; rintro e w5 ⟨rfl, hr5⟩; have HR5 := Lib.hid hr5; clear hr5))
              go_roundw
              case rel => exact ⟨U, I + 1, ps, clock, m, ys, congrArg (Value.int .i64) (by omega), congrArg (Value.int .i64) (by omega), by omega, by omega, Lib.hid (by rw [hUz.out]), HR5, hO⟩
              case measure => simp only [iN]; omega
          · have hg3 : ¬ (I : Int) % 3 = 2 := by omega
            have HUU : Hid (∀ W, Room w W F M ps clock LN → _) := Lib.hid fun W h => used_room (U : Int) h hO.out (by rw [hUz.out]) (by omega)
            go_wp2_with (first
              | (go_at_call 12; refine HA.out.mono ?_; rintro e w3 ⟨rfl, hk⟩; have HR3 := Lib.hid (HR1.out.stay hk); clear hk)
              | (go_at_call 14; refine (HUU.out _ HR3.out).mono ?_; rintro e w5 ⟨rfl, hr5⟩; have HR5 := Lib.hid hr5; clear hr5))
            go_roundw
            case rel => exact ⟨U, I + 1, ps, clock, m, ys, congrArg (Value.int .i64) (by omega), congrArg (Value.int .i64) (by omega), by omega, by omega, Lib.hid (by rw [hUz.out]), HR5, hO⟩
            case measure => simp only [iN]; omega
        · have HA := Lib.hid (append_room N N ⟨wr.heap.size, 0, none⟩ ys (mk0 N) m HR1.out hO.out HBs.out (mk0_len N).symm HM.out (by rw [hUz.out]; omega) (by rw [hUz.out]; omega))
          have HLz : Hid ((ys ++ mk0 N).length = U + N) := Lib.hid (by rw [List.length_append, mk0_len, hUz.out])
          have hUN : U + N ≤ LN := by omega
          rcases Nat.eq_zero_or_pos N with hz | hz
          · have hg1 : ¬ (0 : Int) < (N : Int) := by omega
            clear hf hz
            go_wp2_with (first
              | (go_at_call 12; refine HA.out.mono ?_; rintro e w3 ⟨ps3, cl3, rfl, hr3, ho3⟩; have HR3 := Lib.hid hr3; have HO3 := Lib.hid ho3; have HU3 := Lib.hid (used_room ((U : Int) + (N : Int)) hr3 ho3 (by rw [HLz.out]; omega) (by omega)); clear hr3 ho3)
              | (go_at_call 14; refine HU3.out.mono ?_; rintro e w5 ⟨rfl, hr5⟩; have HR5 := Lib.hid hr5; clear hr5))
            go_roundw
            case rel => exact ⟨U + N, I + 1, ps3, cl3, true, ys ++ mk0 N, congrArg (Value.int .i64) (by omega), congrArg (Value.int .i64) (by omega), by omega, by omega, Lib.hid (by rw [HLz.out]), HR5, HO3⟩
            case measure => simp only [iN]; omega
          · have hg1 : (0 : Int) < (N : Int) := by omega
            have hg2 : ¬ (LN : Int) < (U : Int) + (N : Int) := by omega
            clear hf
            go_wp2_with (first
              | (go_at_call 12; refine HA.out.mono ?_; rintro e w3 ⟨ps3, cl3, rfl, hr3, ho3⟩; have HR3 := Lib.hid hr3; have HO3 := Lib.hid ho3; have HU3 := Lib.hid (used_room ((U : Int) + (N : Int)) hr3 ho3 (by rw [HLz.out]; omega) (by omega)); clear hr3 ho3)
              | (go_at_call 14; refine HU3.out.mono ?_; rintro e w5 ⟨rfl, hr5⟩; have HR5 := Lib.hid hr5; clear hr5))
            go_roundw
            case rel => exact ⟨U + N, I + 1, ps3, cl3, true, ys ++ mk0 N, congrArg (Value.int .i64) (by omega), congrArg (Value.int .i64) (by omega), by omega, by omega, Lib.hid (by rw [HLz.out]), HR5, HO3⟩
            case measure => simp only [iN]; omega
      · have h2' : ¬ (I : Int) < 40 := by omega
        go_wp2
        go_ret
        exact ⟨rfl, hR.out.kept⟩
    · have h1' : ¬ (I : Int) < (len : Int) := by omega
      go_wp2
      go_ret
      exact ⟨rfl, hR.out.kept⟩
end Go.Proofs.YthkncfdgfbnchaaDoor
