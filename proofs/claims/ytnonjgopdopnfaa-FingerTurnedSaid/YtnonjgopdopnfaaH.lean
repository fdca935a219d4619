import Derived.Test.YtnonjgopdopnfaaG
set_option linter.unusedVariables false
set_option linter.unusedSimpArgs false
namespace Go.Proofs.Ytnonjgopdopnfaa
open Go.RowKit Go.Shelf
set_option maxHeartbeats 1000000 in
theorem copy_some (w : World) (b o c n : Nat) (xs : List UInt8) (hn : n ≤ 20000) (hnn : Hid (n = xs.length)) (hp : 0 < n) (hb : Bs w (some ⟨b, o, none⟩) xs) :
    Calls Try.prog 12 #[.slice (some ⟨b, o, none⟩) n c] w fun e w' => ∃ g cap, w.heap.size ≤ g ∧ n ≤ cap ∧ e = .returned (.slice (some ⟨g, 0, none⟩) n cap) ∧ Row w' g cap (xs.map bv) ∧ Below w.heap.size w w' := by
  obtain ⟨i0, hi, hz0, hz1, hz2⟩ := info_parts info5
  have HB := Lib.hid hb
  clear hb
  go_enter Try.func12, Try.ntmps12
  go_wp2_with (at_builtin; refine wpList_append_own _ rfl _ _ 22 rfl w.heap.size 5 i0 (.int .u8 0) 1 1 Try.underlying22 hi hz0 hz1 hz2 rfl (by decide) (.slice none 0 0) 0 [] rfl (World.ownsRow_nil _ _ _ _) ⟨b, o, none⟩ n c (xs.map bv) rfl ?c1 ?c2 ?c3 ?c4 ?c5 ?c6 ?_; rotate_right; intro v' w1 hown hgrow hnil)
  case c1 => simp [hnn.out]
  case c2 => exact HB.out.cells _ rfl
  case c3 => simp [bv, Value.oneCell']
  case c4 => unfold maxLen; omega
  case c5 => omega
  case c6 => omega
  simp only [Nat.zero_add, List.nil_append] at hown
  have hB : Below w.heap.size w w1 := (Below.refl _ _).grown hgrow (Nat.le_refl _) (fun k e => by cases e)
  obtain ⟨g, cap, rfl, hg, hcap, hrow⟩ : ∃ g cap, v' = .slice (some ⟨g, 0, none⟩) n cap ∧ w.heap.size ≤ g ∧ n ≤ cap ∧ Row w1 g cap (xs.map bv) := by
    rcases hown.2 with ⟨_, h0⟩ | ⟨g, cap, cur, h1, h2, h3, h4, _⟩
    · omega
    · subst h1
      exact ⟨g, cap, rfl, h2, h4, Row.of_own hown (by omega)⟩
  go_ret
  exact ⟨g, hg, cap, hcap, rfl, hrow, hB⟩

theorem Row.set {w : World} {B n : Nat} {fs : List Value} (h : Row w B n fs) (v : Value) (j : Nat) (hj : j < fs.length) : Row (w.setCell ⟨B, j, none⟩ v) B n (fs.set j v) := by
  obtain ⟨cur, h1, h2, h3⟩ := h
  refine ⟨cur.setIfInBounds j v, ?_, by simp [h2], ?_⟩
  · simp only [World.setCell, Array.getElem?_modify, if_true, h1]; rfl
  · intro i u hi
    by_cases e : j = i
    · subst e
      rw [List.getElem?_set_self hj] at hi
      have hlt : j < cur.size := by
        have := h3 j fs[j] (by simp [hj])
        exact (Array.getElem?_eq_some_iff.1 this).1
      rw [Array.getElem?_setIfInBounds_self_of_lt hlt]; exact hi
    · rw [List.getElem?_set_ne e] at hi
      rw [Array.getElem?_setIfInBounds_ne e]; exact h3 i u hi

set_option maxHeartbeats 1000000 in
theorem turned_main (w : World) (b o c n : Nat) (xs : List UInt8) (at_ : Int) (y : UInt8) (hn : n ≤ 20000) (hnn : Hid (n = xs.length)) (hp : 0 < n) (hy : y ≠ 0) (hb : Bs w (some ⟨b, o, none⟩) xs) :
    Calls Try.prog 4 #[.slice (some ⟨b, o, none⟩) n c, .int .i64 at_, bv y] w fun e w' => e = .returned (.bool true) ∧ Below w.heap.size w w' := by
  have HB := Lib.hid hb
  have HC := Lib.hid (copy_some w b o c n xs hn hnn hp hb)
  have hn9 : (n : Int) ≤ 20000 := by omega
  have hp9 : (0 : Int) < (n : Int) := by omega
  have h1' : ((n : Int) == 0) = false := by simp; omega
  have h2' : ((y.toNat : Int) == 0) = false := by
    rw [beq_eq_false_iff_ne]; intro h; exact hy (UInt8.toNat_inj.1 (by simpa using h))
  have Hy := Lib.hid hy
  obtain ⟨k, hkk, hkn⟩ : ∃ k : Nat, wrap64 ((IntKind.u64.wrap at_).tmod (n : Int)) = (k : Int) ∧ k < n := by
    have e1 : (IntKind.u64.wrap at_).tmod (n : Int) = (IntKind.u64.wrap at_) % (n : Int) := Int.tmod_eq_emod_of_nonneg (wrap_u64_nonneg _)
    have e2 := Int.emod_nonneg (IntKind.u64.wrap at_) (show (n : Int) ≠ 0 by omega)
    have e3 := Int.emod_lt_of_pos (IntKind.u64.wrap at_) hp9
    refine ⟨((IntKind.u64.wrap at_) % (n : Int)).toNat, ?_, by omega⟩
    rw [e1, IntWalk.wrap64_in _ ⟨by omega, by omega⟩]; omega
  have hkl : k < xs.length := by have := hnn.out; omega
  have hk9 : (k : Int) < (n : Int) := by omega
  obtain ⟨z, hz⟩ : ∃ z : UInt8, z = xs[k] ^^^ y := ⟨_, rfl⟩
  have hxr : bits .xor .u8 (xs[k].toNat : Int) (y.toNat : Int) = (z.toNat : Int) := by
    rw [hz, bits_xor_u8_nat _ _ xs[k].toNat_lt y.toNat_lt, UInt8.toNat_xor]
  have hzne : z ≠ xs[k] := by
    rw [hz]; intro h
    have h' : xs[k] ^^^ (xs[k] ^^^ y) = xs[k] ^^^ xs[k] := by rw [h]
    rw [← UInt8.xor_assoc, UInt8.xor_self, UInt8.zero_xor] at h'
    exact Hy.out h'
  have Hz := Lib.hid hzne
  clear hb hy hz hzne
  unfold bv
  go_enter Try.func4, Try.ntmps4
  go_wp2_with (go_at_call 12; refine HC.out.mono ?_; rintro e w1 ⟨g, cap, hg, hcap, rfl, hR, hB1⟩; have HR := Lib.hid hR; have HB1 := Lib.hid hB1; have hc1 := HR.out.at k (bv xs[k]) (by simp [hkl]); have hf1 := HR.out.frozen k; unfold bv at hc1; clear hR hB1)
  generalize hw2 : w1.setCell ⟨g, k, none⟩ (.int .u8 (z.toNat : Int)) = w2
  have hB12 : Below w.heap.size w w2 := by rw [← hw2]; exact HB1.out.setCell (p := ⟨g, k, none⟩) hg _
  have hR2 : Row w2 g cap ((xs.set k z).map bv) := by
    rw [← hw2, List.map_set]
    exact HR.out.set (bv z) k (by simpa using hkl)
  have hbc : Bs w2 (some ⟨g, 0, none⟩) (xs.set k z) := .inr ⟨g, 0, rfl, fun j hj => by
    have := hR2.at j (bv (xs.set k z)[j]) (by rw [List.getElem?_map, List.getElem?_eq_getElem hj]; rfl)
    simpa using this⟩
  have hba := HB.out.below hB12
  have HBC := Lib.hid hbc
  have HBA := Lib.hid hba
  have HB12 := Lib.hid hB12
  clear hw2 hB12 hR2 hbc hba hc1 hf1
  refine (awake_any _).mono ?_
  rintro e w3 ⟨rfl, hB3⟩
  have HP := Lib.hid (print_any w3 (some ⟨g, 0, none⟩) cap (xs.set k z) (by simp; have := hnn.out; omega) (HBC.out.below hB3))
  have HB3 := Lib.hid hB3
  clear hB3
  rw [List.length_set, ← hnn.out] at HP
  go_wp2_with (go_at_call 7; (with_reducible refine HP.out.mono ?_); rintro e w4 ⟨rfl, hB4⟩; have HB4 := Lib.hid hB4; clear hB4)
  have hB24 := HB3.out.trans (HB4.out.mono HB3.out.size)
  have HQ := Lib.hid (print_any w4 (some ⟨b, o, none⟩) c xs (by have := hnn.out; omega) (HBA.out.below hB24))
  rw [← hnn.out] at HQ
  have HBX := Lib.hid (HB12.out.trans (hB24.mono HB12.out.size))
  clear hB24
  obtain ⟨u, hu⟩ : ∃ u, u = prn E0 (xs.set k z) := ⟨_, rfl⟩
  obtain ⟨v, hv⟩ : ∃ v, v = prn E0 xs := ⟨_, rfl⟩
  have huv : u ≠ v := by rw [hu, hv]; exact prn_turned E0 E0_lt xs k hkl z Hz.out
  rw [← hu]
  rw [← hv] at HQ
  have hne : ((u : Int) != (v : Int)) = true := by rw [bne_iff_ne]; omega
  clear huv hu hv HP
  go_wp2_with (go_at_call 7; (with_reducible refine HQ.out.mono ?_); rintro e w5 ⟨rfl, hB5⟩; have HB5 := Lib.hid hB5; clear hB5)
  go_ret
  exact ⟨rfl, HBX.out.trans (HB5.out.mono HBX.out.size)⟩
end Go.Proofs.Ytnonjgopdopnfaa
