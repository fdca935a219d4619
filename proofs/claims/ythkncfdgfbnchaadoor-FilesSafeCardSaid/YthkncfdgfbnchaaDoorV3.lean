/-
  courantlaw16.FilesSafe: every input.
-/
import Derived.Test.YthkncfdgfbnchaaDoorV2
import Derived.Test.YthkncfdgfbnchaaDoorF1
import Derived.Below
set_option linter.unusedVariables false
set_option linter.unusedSimpArgs false
namespace Go.Proofs.YthkncfdgfbnchaaDoor
open Go.RowKit

set_option maxRecDepth 100000 in
set_option maxHeartbeats 4000000 in
theorem safe_long (w : World) (A0 A1 A2 : Option Addr) (n0 c0 n1 c1 n2 c2 : Nat) (t : Bool) (h : 5000 < n0 ∨ 5000 < n1 ∨ 60 < n2) :
    Calls Tryd.prog 4 #[.slice A0 n0 c0, .slice A1 n1 c1, .slice A2 n2 c2, .bool t] w fun e w' => e = .returned (.bool true) ∧ Kept (fun _ => False) w w' := by
  have HN := Lib.hid (new_room w 1048576)
  by_cases g0 : (5000 : Int) < (n0 : Int)
  · clear h
    go_enter Tryd.func4, Tryd.ntmps4
    go_wp2_with (first
      | (go_at_call 10; refine HN.out.mono ?_; rintro e w1 ⟨F, M, rfl, hr⟩; have HK := Lib.hid hr.kept; clear hr)
      | (go_at_call 11; refine (awake_any _).mono ?_; rintro e w2 ⟨rfl, hk⟩; have HK := Lib.hid (HK.out.trans' hk); clear hk))
    go_ret
    exact ⟨rfl, HK.out⟩
  · by_cases g1 : (5000 : Int) < (n1 : Int)
    · clear h
      go_enter Tryd.func4, Tryd.ntmps4
      go_wp2_with (first
        | (go_at_call 10; refine HN.out.mono ?_; rintro e w1 ⟨F, M, rfl, hr⟩; have HK := Lib.hid hr.kept; clear hr)
        | (go_at_call 11; refine (awake_any _).mono ?_; rintro e w2 ⟨rfl, hk⟩; have HK := Lib.hid (HK.out.trans' hk); clear hk))
      go_ret
      exact ⟨rfl, HK.out⟩
    · have g2 : (60 : Int) < (n2 : Int) := by omega
      clear h
      go_enter Tryd.func4, Tryd.ntmps4
      go_wp2_with (first
        | (go_at_call 10; refine HN.out.mono ?_; rintro e w1 ⟨F, M, rfl, hr⟩; have HK := Lib.hid hr.kept; clear hr)
        | (go_at_call 11; refine (awake_any _).mono ?_; rintro e w2 ⟨rfl, hk⟩; have HK := Lib.hid (HK.out.trans' hk); clear hk))
      go_ret
      exact ⟨rfl, HK.out⟩
/-- A slice of bytes that came in. -/
theorem row_bytes' {w : World} {a : Option Addr} {len cap : Nat} {zs : List Int} (h : IsRow .u8 w a len cap zs) : ∃ xs : List UInt8, len = xs.length ∧ Bs w a xs ∧ (a = none → cap = 0) ∧ (∀ ad, a = some ad → xs = [] ∨ ad.block < w.heap.size) ∧ len ≤ cap := by
  rcases h with ⟨rfl, rfl, rfl, rfl⟩ | ⟨x, rfl, hl, hm, hz, hc, hw⟩
  · exact ⟨[], rfl, Bs.nil _ _, fun _ => rfl, fun ad e => (by cases e), Nat.le_refl _⟩
  · refine ⟨(zs.take len).map fun z => UInt8.ofNat z.toNat, by simp; omega, ⟨fun e => (by cases e), fun ad e j u hu => ?_⟩, fun e => (by cases e), fun ad e => ?_, hl⟩
    · cases e
      have hj : j < len := by have := (List.getElem?_eq_some_iff.1 hu).1; simp at this; omega
      have hjz : j < zs.length := by omega
      rw [hc j hjz]
      have hg : zs.getD j 0 = zs[j] := by simp [List.getD, hjz]
      have hz' := hw zs[j] (List.getElem_mem hjz)
      have hz2 : 0 ≤ zs[j] ∧ zs[j] < 256 := by
        simp [Lit.wf, IntKind.min, IntKind.max, IntKind.signed, IntKind.bits] at hz'
        omega
      have hu2 : u = .int .u8 ((UInt8.ofNat zs[j].toNat).toNat : Int) := by
        simp [List.getElem?_take, hj, hjz, bv] at hu
        simp [← hu]
      rw [hg, hu2]
      simp
      omega
    · cases e
      rcases Nat.eq_zero_or_pos len with h0 | h0
      · exact .inl (by subst h0; simp)
      · exact .inr (by have := World.block_lt_of_cell? w _ (hc 0 (by omega)); rwa [add_block] at this)
theorem safe_any (w : World) (A0 A1 A2 : Option Addr) (n0 c0 n1 c1 n2 c2 : Nat) (t : Bool) (z0 z1 z2 : List Int) (h0 : IsRow .u8 w A0 n0 c0 z0) (h1 : IsRow .u8 w A1 n1 c1 z1) (h2 : IsRow .i64 w A2 n2 c2 z2) :
    Calls Tryd.prog 4 #[.slice A0 n0 c0, .slice A1 n1 c1, .slice A2 n2 c2, .bool t] w fun e w' => e = .returned (.bool true) ∧ Below w.heap.size w w' := by
  have fin : ∀ (e : Ending) (w' : World), (e = .returned (.bool true) ∧ Kept (fun _ => False) w w') → e = .returned (.bool true) ∧ Below w.heap.size w w' := fun e w' ⟨he, hk⟩ => ⟨he, hk.below (Nat.le_refl _) fun _ h => h.elim⟩
  by_cases hl : 5000 < n0 ∨ 5000 < n1 ∨ 60 < n2
  · exact (safe_long w A0 A1 A2 n0 c0 n1 c1 n2 c2 t hl).mono fin
  · obtain ⟨ys, hn, hx, hA, hw, _⟩ := row_bytes' h0
    obtain ⟨xs, hn1, hx1, hA1, hw1, hc1⟩ := row_bytes' h1
    have hks : ∀ j, j < n2 → ∃ ad z, A2 = some ad ∧ w.cell? (ad.add j) = some (.int .i64 z) := by
      intro j hj
      rcases h2 with ⟨_, h, _⟩ | ⟨x, rfl, hle, _, hz, hc, _⟩
      · omega
      · exact ⟨x, _, rfl, hc j (by omega)⟩
    cases t
    · exact (safe_whole w A0 A1 A2 n0 c0 n1 c1 n2 c2 ys xs hx hn hA hw hx1 hn1 hA1 hw1 hc1 hks (by omega) (by omega) (by omega)).mono fin
    · exact (safe_torn w A0 A1 A2 n0 c0 n1 c1 n2 c2 ys xs hx hn hA hw hx1 hn1 hA1 hw1 hc1 hks (by omega) (by omega) (by omega)).mono fin
end Go.Proofs.YthkncfdgfbnchaaDoor
