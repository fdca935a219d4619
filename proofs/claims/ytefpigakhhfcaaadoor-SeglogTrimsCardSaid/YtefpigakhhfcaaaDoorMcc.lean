import Derived.Test.YtefpigakhhfcaaaDoorMcb
/-! courantlaw21.SeglogTrims, walked: forty records at most. -/
section
set_option linter.unusedVariables false
set_option linter.unusedSimpArgs false
namespace Go.Proofs.YtefpigakhhfcaaaDoor
open Go.RowKit

set_option maxRecDepth 100000 in
set_option maxHeartbeats 80000000 in
theorem seglogTrims_few (w : World) (A A' : Option Addr) (n c n' c' : Nat) (zs zs' : List Int) (h : IsRow .i64 w A n c zs) (h' : IsRow .i64 w A' n' c' zs') (h40 : n ≤ 40) : Calls Tryd.prog 5 #[.slice A n c, .slice A' n' c'] w fun e w' => e = .returned (.bool true) ∧ Kept (fun _ => False) w w' := by
  have HN := Lib.hid (new_any w 4194304)
  have HB : Hid (boundI 4194304 = 4194304) := Lib.hid (by decide)
  have HZ : Hid (∀ k, k < n → ∃ ad X, A = some ad ∧ w.cell? (ad.add k) = some (.int .i64 X)) := Lib.hid fun k hk => by
    rcases h with ⟨-, rfl, -⟩ | ⟨x, rfl, h1, h2, h3, h4, -⟩
    · omega
    · exact ⟨x, _, rfl, h4 k (by omega)⟩
  have HZ' : Hid (∀ k, k < n' → ∃ ad X, A' = some ad ∧ w.cell? (ad.add k) = some (.int .i64 X)) := Lib.hid fun k hk => by
    rcases h' with ⟨-, rfl, -⟩ | ⟨x, rfl, h1, h2, h3, h4, -⟩
    · omega
    · exact ⟨x, _, rfl, h4 k (by omega)⟩
  have hn9 : (n : Int) ≤ 9223372036854775807 := by
    rcases h with ⟨-, rfl, -⟩ | ⟨x, rfl, h1, h2, -⟩
    · omega
    · unfold maxLen at h2; omega
  have hn9' : (n' : Int) ≤ 9223372036854775807 := by
    rcases h' with ⟨-, rfl, -⟩ | ⟨x, rfl, h1, h2, -⟩
    · omega
    · unfold maxLen at h2; omega
  clear h h'
  go_enter Tryd.func5, Tryd.ntmps5
  go_upto_region 5 with (first
    | (go_at_call 8; refine HN.out.mono ?_; rintro e w1 ⟨F, M, rfl, hF, hk, hF1, hM1⟩; rw [HB.out] at hF; have HF := Lib.hid hF; have HK1 := Lib.hid hk; have HF1 := Lib.hid hF1; have HM1 := Lib.hid hM1; clear hF hk hF1 hM1)
    | (go_at_call 7; refine (slOpen_first (nm := ⟨#[97]⟩) HF.out HK1.out HF1.out HM1.out (by decide) nmL_full).mono ?_; rintro e w2 ⟨T, v, ps2, c2, rfl, hl⟩; have HL2 := Lib.hid hl; clear hl)
    | (go_at_call 9; refine (awake21_any _).mono ?_; rintro e w3 ⟨rfl, hk3⟩; have HT3 : Hid (TrA w w3 T F M 4194304 0) := Lib.hid ⟨_, _, _, _, _, HL2.out.stay hk3, rfl, LastNE.nil⟩; clear hk3))
  clear HF HK1 HF1 HM1 HL2 HN HB
  go_wp2_with fail
  go_loopw [8] (fun i wr => ∃ k : Nat, i = .int .i64 (k : Nat) ∧ k ≤ n ∧ k ≤ 40 ∧ Hid (TrA w wr T F M 4194304 k)) (fun i _ => 40 - (intOf i).toNat)
  case atStart => exact ⟨0, rfl, by omega, by omega, HT3⟩
  case round =>
    clear HT3
    obtain ⟨k, rfl, hkn, hk40, hI⟩ := hrel
    by_cases hc : k < n ∧ k < 40
    · obtain ⟨hk1, hk2⟩ := hc
      have g1 : (k : Int) < (n : Int) := by omega
      have g2 : (k : Int) < 40 := by omega
      obtain ⟨ps, cl, v1, ms, sf, hL, hnx, hne⟩ := hI.out
      obtain ⟨ad, X, rfl, hcell⟩ := HZ.out k hk1
      have hcr := hL.kw.cell hcell (by simp)
      have HNr := Lib.hid (modN_r 1500 X (by decide) (by decide))
      obtain ⟨N0, hN0⟩ : ∃ L, L = wrap64 ((IntKind.u64.wrap X).tmod 1500) := ⟨_, rfl⟩
      rw [← hN0] at HNr
      obtain ⟨r, hr⟩ : ∃ r : Nat, N0 = r := ⟨N0.toNat, by have := HNr.out; omega⟩
      subst hr
      have hr9 : r < 1500 := by have := HNr.out; omega
      have hN1 := hN0.symm
      clear hN0
      have h5 : IntKind.u64.wrap ((k : Nat) : Int) = (k : Int) := by rw [IntKind.wrap_u64]; omega
      have hmk := make_run2 wr r hr9
      obtain ⟨W1, hW1⟩ : ∃ W1, W1 = wr.alloc (.cells ((mk0 r).map bv).toArray 5) := ⟨_, rfl⟩
      obtain ⟨b, hb⟩ : ∃ b, b = wr.heap.size := ⟨_, rfl⟩
      rw [← hW1, ← hb] at hmk
      have hbk : W1.heap[b]? = some (.cells ((mk0 r).map bv).toArray 5 (0, 0)) := by rw [hW1, hb]; exact heap_alloc_new wr _
      have hL1 : LW w W1 (fun _ => none) T F M ⟨#[97]⟩ ps cl 4194304 v1 ms sf k (1516 * k) := by rw [hW1]; exact hL.stay ((Kept.refl _ wr).alloc _)
      have HA : Hid (Calls Tryd.prog 10 #[.pointer (some ⟨T, 0, none⟩), .slice (some ⟨b, 0, none⟩) r r] W1 (LWApp w W1 (fun _ => none) T F M ⟨#[97]⟩ ps 4194304 v1 ms k (1516 * k) (mk0 r))) := Lib.hid (hL1.append (by omega) (by decide) nmL_full (by rw [mk0_len]; omega) (by rw [mk0_len]; omega) (fun W hW => bs_blk (hW.heap hbk fun e => by have := hL.ls.lg.foot_lt b e; omega)) (mk0_len r).symm (fun e => by cases e) (by rw [mk0_len]; omega))
      have HC := Lib.hid hL.ls.sm.cont
      have Hb := Lib.hid hb
      have HK1 : Hid (Kept (fun _ => False) wr W1) := Lib.hid (by rw [hW1]; exact (Kept.refl _ wr).alloc _)
      have Hnx := Lib.hid hnx
      clear hL hL1 hnx hne hcell hbk hW1 hb
      go_wp2_with (go_at_call 10; refine HA.out.mono ?_; rintro e w4 ⟨ps4, c4, v4, ms4, sf4, rfl, hl4, hp4, -, -⟩; rw [Hnx.out]; have HT4 : Hid (TrA w w4 T F M 4194304 (k + 1)) := Lib.hid ⟨ps4, c4, v4, ms4, sf4, hl4.mono (by rw [mk0_len]; omega), by rw [hp4, logPut_nxt _ HC.out, Hnx.out], by rw [hp4]; exact LastNE.put _ _⟩; clear hl4 hp4)
      go_roundw
      case rel => exact ⟨k + 1, by go_num, by omega, by omega, HT4⟩
      case measure => simp [intOf]; omega
    · have hE : ¬ (k : Int) < (n : Int) := by omega
      have hmn : min (n : Int) 40 = (k : Int) := by omega
      have Hmn := Lib.hid hmn
      have hwk : IntKind.u64.wrap ((k : Nat) : Int) = (k : Int) := by rw [IntKind.wrap_u64]; omega
      have Hwk := Lib.hid hwk
      clear hc hmn hwk
      all_goals go_upto_region 11 with fail
      all_goals
        clear hE
        go_wp2_with fail
        go_loopw [11] (fun i wr => ∃ j : Nat, i = .int .i64 (j : Nat) ∧ j ≤ n' ∧ j ≤ 6 ∧ Hid (TrA w wr T F M 4194304 k)) (fun i _ => 6 - (intOf i).toNat)
        case' atStart => exact ⟨0, rfl, by omega, by omega, hI⟩
        clear hI
        obtain ⟨j, rfl, hjn, hj6, hI⟩ := hrel
        by_cases hc : j < n' ∧ j < 6
        · obtain ⟨hj1, hj2⟩ := hc
          have g1 : (j : Int) < (n' : Int) := by omega
          have g2 : (j : Int) < 6 := by omega
          obtain ⟨ps, cl, v1, ms, sf, hL, hnx, hne⟩ := hI.out
          obtain ⟨ad, X, rfl, hcell⟩ := HZ'.out j hj1
          obtain ⟨N0, hN0⟩ : ∃ L, L = wrap64 ((IntKind.u64.wrap X).tmod 20000) := ⟨_, rfl⟩
          have HNr := Lib.hid (modN_r 20000 X (by decide) (by decide))
          rw [← hN0] at HNr
          obtain ⟨m, hm⟩ : ∃ m : Nat, N0 = m := ⟨N0.toNat, by have := HNr.out; omega⟩
          subst hm
          have hm9 : m < 20000 := by have := HNr.out; omega
          have hN1 := hN0.symm
          have hcr := hL.kw.cell hcell (by simp)
          clear hN0 hcell
          have HL := Lib.hid hL
          have Hnx := Lib.hid hnx
          have Hne := Lib.hid hne
          clear hL hnx hne hI
          obtain ⟨nG, hnG⟩ : ∃ nG, nG = (prts ms).length := ⟨_, rfl⟩
          have hnG9 : nG ≤ 41 := by have := HL.out.few; rw [hnG, prts, List.length_map]; omega
          have HS1 : Hid (Calls Tryd.prog 16 #[.pointer (some ⟨T, 0, none⟩)] wr fun e w' => ∃ u, e = .returned u ∧ SegAt w' wr.heap.size u (prts ms) ∧ Kept (fun _ => False) wr w') := Lib.hid (slSegments_any wr T F _ v1 ms false HL.out.ls.lg.lb HL.out.ls.lg.row (by have := HL.out.few; omega))
          obtain ⟨J, hJ⟩ : ∃ J, J = trimN (prts ms) m := ⟨_, rfl⟩
          have hJn : J ≤ nG := by
            rw [hJ, hnG]
            by_cases e : prts ms = []
            · rw [e]; exact Nat.le_refl _
            · exact Nat.le_of_lt (trimN_lt _ _ e)
          obtain ⟨J0, hJ0⟩ : ∃ J0 : Int, J0 = (J : Int) := ⟨_, rfl⟩
          have hJ1 : 0 ≤ J0 := by omega
          have hJ2 : ¬ (nG : Int) < J0 := by omega
          have HnG := Lib.hid hnG
          have HJ := Lib.hid hJ
          have HJ0 := Lib.hid hJ0
          clear hJ hJ0 hnG
          go_upto_region 16 with (go_at_call 16; refine HS1.out.mono ?_; rintro e w5 ⟨u5, rfl, hs5, hk5⟩; obtain ⟨A5, c5, rfl, hg5, hA5, hc5, -⟩ := hs5.form; rw [← HnG.out] at hc5 ⊢; have HS5 := Lib.hid hs5; have HG5 := Lib.hid hg5; have HK5 := Lib.hid hk5; have hcr5 := hk5.cell hcr (by simp); clear hs5 hg5 hk5)
          have HT5 : Hid (Calls Tryd.prog 17 #[.pointer (some ⟨T, 0, none⟩), .int .i64 (m : Nat)] w5 (LWTrim w w5 (fun _ => none) T F M ⟨#[97]⟩ ps 4194304 v1 ms m k (1516 * k))) := Lib.hid ((HL.out.stay HK5.out).trim (by omega) (by decide) (by omega))
          go_upto_region 17 with (go_at_call 17; refine HT5.out.mono ?_; rintro e w6 ⟨ps6, c6, v6, sf6, rfl, hl6, hm6⟩; rw [← HJ.out] at hl6 hm6 ⊢; rw [← HJ0.out]; have HL6 := Lib.hid hl6; have HM6 := Lib.hid hm6; clear hl6 hm6)
          have HS6 : Hid (Calls Tryd.prog 16 #[.pointer (some ⟨T, 0, none⟩)] w6 fun e w' => ∃ u, e = .returned u ∧ SegAt w' w6.heap.size u ((prts ms).drop J) ∧ Kept (fun _ => False) w6 w') := Lib.hid (by
            have := slSegments_any w6 T F _ v6 (ms.drop J) false HL6.out.ls.lg.lb HL6.out.ls.lg.row (by rw [List.length_drop]; have := HL.out.few; omega)
            rwa [prts_drop] at this)
          obtain ⟨nH, hnH⟩ : ∃ nH, nH = ((prts ms).drop J).length := ⟨_, rfl⟩
          have hnHJ : nH + J = nG := by rw [hnH, List.length_drop, ← HnG.out]; omega
          have HnH := Lib.hid hnH
          clear hnH
          go_upto_region 18 with (go_at_call 16; refine HS6.out.mono ?_; rintro e w7 ⟨u7, rfl, hs7, hk7⟩; obtain ⟨A7, c7, rfl, hg7, hA7, hc7, -⟩ := hs7.form; rw [← HnH.out] at hc7 ⊢; have HS7 := Lib.hid hs7; have HG7 := Lib.hid hg7; have HK7 := Lib.hid hk7; clear hs7 hg7 hk7)
          obtain ⟨A2, hsl, hsg⟩ := segB_form A5 nG J c5 (prts ms) HnG.out hJn hc5
          obtain ⟨cc, hcc⟩ : ∃ cc, cc = c5 - J := ⟨_, rfl⟩
          have hsl2 : ∀ W, (Instr.slice 47 (.slice A5 nG c5) (some (.int .i64 J0)) none none).run Tryd.prog W = .ok (.slice A2 nH cc) W := fun W => by rw [HJ0.out, hsl W, hcc, show nG - J = nH by omega]
          have HPl : Hid (Calls Tryd.prog 18 #[.slice A7 nH c7, .slice A2 nH cc] w7 fun e w' => e = .returned (.bool true) ∧ Kept (fun _ => False) w7 w') := Lib.hid (plainSg_eq w7 A7 A2 nH c7 cc _ HnH.out (by omega) HG7.out (hsg _ ((HG5.out.kept HM6.out.kept (fun ad e e2 => by
            have h1 := HL.out.ls.lg.foot_lt _ e2
            obtain ⟨A5', c5', h2, -, -, -, h3⟩ := HS5.out.form
            simp only [Value.slice.injEq] at h2
            obtain ⟨rfl, -, rfl⟩ := h2
            obtain ⟨g, rfl, h4⟩ := h3 ad e
            have h5 := own_ge HS5.out g h4
            simp only at h1
            omega)).kept HK7.out (by simp))))
          have hg18 : ¬ (0 : Int) < (nG : Int) ∨ (0 : Int) < (nG : Int) ∧ ((nH : Int) == 0) = false := by
            by_cases h : 0 < nG
            · refine .inr ⟨by omega, ?_⟩
              have h1 := trimN_lt (prts ms) m (fun e => by have := HnG.out; rw [e] at this; simp at this; omega)
              rw [← HJ.out, ← HnG.out] at h1
              rw [beq_eq_false_iff_ne]
              omega
            · exact .inl (by omega)
          clear hsl hsg hcc
          rcases hg18 with g18 | ⟨g18, g19⟩
          all_goals go_upto_region 20 with (go_at_call 18; refine HPl.out.mono ?_; rintro e w8 ⟨rfl, hk8⟩; have HK8 := Lib.hid hk8; clear hk8)
          all_goals
            have hs8 : SegAt w8 w6.heap.size (.slice A7 nH c7) ((prts ms).drop J) := by
              have h1 := own_kept HS7.out HK8.out (by simp)
              rw [← HnH.out] at h1
              unfold SegAt
              rw [← HnH.out]
              exact h1
            have HS8 := Lib.hid hs8
            have HTot : Hid (sumSz ((prts ms).drop J) ≤ 1000000) := Lib.hid (by have h1 := sumSz_drop (prts ms) J; have h2 := HL.out.ls.sm.sum; omega)
            clear hs8
            go_wp2_with fail
            go_loop [17, 18] (fun t i => ∃ q : Nat, q ≤ nH ∧ i = .int .i64 (q : Nat) ∧ t = .int .i64 ((sumSz (((prts ms).drop J).take q) : Nat) : Int)) (fun _ i => nH - (intOf i).toNat)
            case' atStart => exact ⟨0, by omega, rfl, rfl⟩
            obtain ⟨q, hq, rfl, rfl⟩ := hrel
            by_cases hqn : q < nH
            · first
              | (exfalso; omega)
              |
                (have hq9 : (q : Int) < (nH : Int) := by omega
                 obtain ⟨p, hp⟩ : ∃ p, ((prts ms).drop J)[q]? = some p := ⟨_, List.getElem?_eq_getElem (by have := HnH.out; omega)⟩
                 obtain ⟨g, cg, hv, hcg, hcell⟩ := HS8.out.cells (fun e => by have := HnH.out; rw [e] at this; simp at this; omega)
                 rw [← HnH.out] at hv hcg
                 simp only [Value.slice.injEq, true_and] at hv
                 obtain ⟨rfl, rfl⟩ := hv
                 obtain ⟨-, x1⟩ := hcell q p hp
                 obtain ⟨s0, hs0⟩ : ∃ s0, s0 = sumSz (((prts ms).drop J).take q) := ⟨_, rfl⟩
                 obtain ⟨sz, hsz⟩ : ∃ sz, sz = szP p := ⟨_, rfl⟩
                 have hsum := sumSz_take _ _ _ hp
                 have hle := sumSz_le ((prts ms).drop J) (q + 1)
                 rw [← hs0, ← hsz] at hsum
                 rw [← hsz] at x1
                 rw [← hs0]
                 have hb9 : s0 + sz ≤ 1000000 := by have := HTot.out; omega
                 have Hsum := Lib.hid hsum
                 clear hs0 hsz hsum hle hcell hp
                 go_wp2
                 go_round
                 case rel => exact ⟨q + 1, by omega, by go_num, by rw [Hsum.out]; go_num⟩
                 case measure => simp [intOf]; omega)
            · have hq9 : ¬ (q : Int) < (nH : Int) := by omega
              have HT8 : Hid (((prts ms).drop J).take q = (prts ms).drop J) := Lib.hid (List.take_of_length_le (by have := HnH.out; omega))
              go_upto_region 25 with fail
              rw [HT8.out]
              have HL8 := Lib.hid ((HL6.out.stay HK7.out).stay HK8.out)
              have hTr8 : ∀ a, TrA w (w8.drewN a) T F M 4194304 k := fun a => by
                refine ⟨ps6, c6, v6, ms.drop J, sf6, HL8.out.stay ((Kept.refl _ _).drewN a), ?_, by rw [prts_drop]; exact Hne.out.drop J⟩
                exact nx_of Hnx.out HnG.out HJ.out
              have HTr8 := Lib.hid hTr8
              have hNq : ∀ a, Calls Tryd.prog 15 #[.pointer (some ⟨T, 0, none⟩)] (w8.drewN a) fun e w' => e = .returned (.int .u64 (k : Nat)) ∧ ∃ q, w' = (w8.drewN a).drewN q := fun a => by
                have h7 := slNext_quiet HL8.out.ls.lg.lb HL8.out.ls.lg.row (by have := HL8.out.few; omega) (by have := HL8.out.ls.sm.nx; omega) a
                have h6 : nxtP (prts (ms.drop J)) = k := nx_of Hnx.out HnG.out HJ.out
                rwa [h6] at h7
              have hFq : ∀ a, Calls Tryd.prog 19 #[.pointer (some ⟨T, 0, none⟩)] (w8.drewN a) fun e w' => e = .returned (.int .u64 ((fstP ((prts ms).drop J) : Nat) : Int)) ∧ ∃ q, w' = (w8.drewN a).drewN q := fun a => by
                have h7 := slFirst_any (HL8.out.ls.lg.lb.kept ((Kept.refl (fun _ => False) w8).drewN a) (by simp)) (HL8.out.ls.lg.row.kept ((Kept.refl (fun _ => False) w8).drewN a) (by simp))
                rw [prts_drop] at h7
                exact h7.mono fun e w' ⟨h1, h2⟩ => ⟨h1, 0, h2⟩
              have HNq := Lib.hid hNq
              have HFq := Lib.hid hFq
              obtain ⟨tot, htot⟩ : ∃ tot, tot = sumSz ((prts ms).drop J) := ⟨_, rfl⟩
              rw [← htot]
              have htot9 : tot ≤ 1000000 := by have := HTot.out; omega
              obtain ⟨f0, hf0⟩ : ∃ f0, f0 = fstP ((prts ms).drop J) := ⟨_, rfl⟩
              rw [← hf0] at HFq
              have gA : ¬ (m : Int) < (tot : Int) ∨ (m : Int) < (tot : Int) ∧ ¬ (1 : Int) < (nH : Int) := by
                by_cases h1 : m < tot
                · refine .inr ⟨by omega, ?_⟩
                  have h2 := trimN_end (prts ms) m
                  rw [← HJ.out, ← HnH.out, ← htot] at h2
                  omega
                · exact .inl (by omega)
              have gB : ¬ (0 : Int) < J0 ∨ ∃ (i1 z1 g5 : Nat), (0 : Int) < J0 ∧ J0 - 1 = (i1 : Int) ∧ i1 < nG ∧ A5 = some ⟨g5, 0, none⟩ ∧ w8.cell? ⟨g5, i1 * 2 + 1, none⟩ = some (.int .i64 (z1 : Nat)) ∧ ¬ (tot : Int) + (z1 : Int) ≤ (m : Int) ∧ z1 ≤ 1000000 := by
                by_cases h1 : (0 : Int) < J0
                · have h2 : J = (J - 1) + 1 := by have := HJ0.out; omega
                  obtain ⟨p, h3, h4⟩ := trimN_step (prts ms) m (J - 1) (by rw [← HJ.out]; exact h2)
                  rw [← h2, ← htot] at h4
                  have hG : prts ms ≠ [] := fun e => by rw [e] at h3; simp at h3
                  obtain ⟨g5, cg, h5, h6, h7⟩ := HS5.out.cells hG
                  simp only [Value.slice.injEq] at h5
                  obtain ⟨rfl, -, rfl⟩ := h5
                  have h8 := (h7 _ p h3).2
                  have h9 := (HM6.out.kept.cell h8 (fun e2 => by
                    have q1 := HL.out.ls.lg.foot_lt _ e2
                    have q2 := own_ge HS5.out g5 rfl
                    simp only at q1
                    omega))
                  have h10 := HK8.out.cell (HK7.out.cell h9 (by simp)) (by simp)
                  have h11 := (HL.out.ls.sm.one (List.mem_of_getElem? h3)).2.2
                  exact .inr ⟨J - 1, szP p, g5, h1, by have := HJ0.out; omega, by have := HJ0.out; omega, rfl, h10, by omega, by omega⟩
                · exact .inl h1
              have gC : nH = 0 ∨ ∃ g7, (0 : Int) < (nH : Int) ∧ 0 < nH ∧ A7 = some ⟨g7, 0, none⟩ ∧ w8.cell? ⟨g7, 0, none⟩ = some (.int .u64 (f0 : Nat)) := by
                rcases Nat.eq_zero_or_pos nH with h1 | h1
                · exact .inl h1
                · obtain ⟨p, hp⟩ : ∃ p, ((prts ms).drop J)[0]? = some p := ⟨_, List.getElem?_eq_getElem (by have := HnH.out; omega)⟩
                  obtain ⟨g7, cg, h5, h6, h7⟩ := HS8.out.cells (fun e => by rw [e] at hp; simp at hp)
                  simp only [Value.slice.injEq] at h5
                  obtain ⟨rfl, -, rfl⟩ := h5
                  have h8 := (h7 0 p hp).1
                  rw [Nat.zero_mul] at h8
                  have h9 : fstP ((prts ms).drop J) = p.1 := by
                    cases h10 : (prts ms).drop J with
                    | nil => rw [h10] at hp; simp at hp
                    | cons a l => rw [h10] at hp; simp at hp; subst hp; rfl
                  exact .inr ⟨g7, by omega, h1, rfl, by rw [hf0, h9]; exact h8⟩
              have hmn := Hmn.out
              have hwk := Hwk.out
              have Hf0 := Lib.hid hf0
              have Htot := Lib.hid htot
              have HNH : Hid (0 < nG → 0 < nH) := Lib.hid fun h9 => by
                have h6 := trimN_lt (prts ms) m (fun e => by have := HnG.out; rw [e] at this; simp at this; omega)
                rw [← HJ.out, ← HnG.out] at h6
                omega
              have HT0 : Hid (nG = 0 → tot = 0) := Lib.hid fun h9 => by
                have h8 : prts ms = [] := List.eq_nil_of_length_eq_zero (by rw [← HnG.out]; exact h9)
                rw [htot, h8]; simp [sumSz]
              clear hf0 htot hNq hFq hTr8
              rcases gC with gC | ⟨g7, gC, gC2, rfl, y7⟩
              all_goals rcases gA with gA | ⟨gA, gA2⟩
              all_goals rcases gB with gB | ⟨i1, z1, g5, gB, gB2, gB3, rfl, y5, gB4, gB5⟩
              all_goals try (exfalso; have q1 := HNH.out; have q2 := HT0.out; omega)
              all_goals
                try have gC1 : ¬ 0 < nH := by omega
                try have gC3 : ((nH : Nat) : Int) ≤ 0 := by omega
                try clear gC
                go_quiet ((first | (go_at_call 19; exact Calls.quiet_of (HFq.out _)) | (go_at_call 15; exact Calls.quiet_of (HNq.out _))))
                go_wp2
                go_roundw
                case rel => exact ⟨j + 1, by go_num, by omega, by omega, Lib.hid (HTr8.out _)⟩
                case measure => simp [intOf]; omega
        · have hX : ¬ (j : Int) < (n' : Int) ∨ (j : Int) < (n' : Int) ∧ ¬ (j : Int) < 6 := by omega
          obtain ⟨ps, cl, v1, ms, sf, hL, hnx, hne⟩ := hI.out
          have HL := Lib.hid hL
          have HF1 := Lib.hid (slFirst_any hL.ls.lg.lb hL.ls.lg.row)
          have HN1 : Hid (Calls Tryd.prog 15 #[.pointer (some ⟨T, 0, none⟩)] wr fun e w' => e = .returned (.int .u64 (k : Nat)) ∧ Kept (fun _ => False) wr w') := Lib.hid (by
            have := slNext_any hL.ls.lg.lb hL.ls.lg.row (by have := hL.few; omega) (by have := hL.ls.sm.nx; omega)
            rwa [hnx] at this)
          have HS1 : Hid (∀ W, Kept (fun _ => False) wr W → Calls Tryd.prog 16 #[.pointer (some ⟨T, 0, none⟩)] W fun e w' => ∃ u, e = .returned u ∧ SegAt w' W.heap.size u (prts ms) ∧ Kept (fun _ => False) W w') := Lib.hid fun W hW => slSegments_any W T F _ v1 ms false (hL.ls.lg.lb.kept hW (by simp)) (hL.ls.lg.row.kept hW (by simp)) (by have := hL.few; omega)
          have Hnx := Lib.hid hnx
          have Hne := Lib.hid hne
          have Hfew := Lib.hid hL.few
          obtain ⟨nG, hnG⟩ : ∃ nG, nG = (prts ms).length := ⟨_, rfl⟩
          have hnG9 : nG ≤ 41 := by have := hL.few; rw [hnG, prts, List.length_map]; omega
          have HnG := Lib.hid hnG
          clear hL hnx hne hI hc hnG
          rcases hX with hX | ⟨hX, hX2⟩
          all_goals go_upto_region 28 with (first
            | (go_at_call 19; refine HF1.out.mono ?_; rintro e w5 ⟨rfl, rfl⟩)
            | (go_at_call 15; refine HN1.out.mono ?_; rintro e w6 ⟨rfl, hk6⟩; have HK6 := Lib.hid hk6; clear hk6)
            | (go_at_call 16; refine (HS1.out _ HK6.out).mono ?_; rintro e w7 ⟨u7, rfl, hs7, hk7⟩; obtain ⟨A7, c7, rfl, hg7, hA7, hc7, -⟩ := hs7.form; rw [← HnG.out]; have HS7 := Lib.hid hs7; have HG7 := Lib.hid hg7; have HK7 := Lib.hid hk7; clear hs7 hg7 hk7))
          all_goals
            have HO := Lib.hid (((HL.out.stay HK6.out).stay HK7.out).reopen (by omega) (by decide) nmL_full Hne.out)
            go_upto_region 29 with (go_at_call 7; refine HO.out.mono ?_; rintro e w8 ⟨T2, v8, ms8, ps8, c8, rfl, hl8, hp8, -, hk8, hw8⟩; have HL8 := Lib.hid hl8; have HP8 := Lib.hid hp8; have HK8 := Lib.hid hk8; have HW8 := Lib.hid hw8; clear hl8 hp8 hk8 hw8)
            have hm8 : ms8.length = ms.length := by have h1 := congrArg List.length HP8.out; simpa [prts] using h1
            have HF2 : Hid (Calls Tryd.prog 19 #[.pointer (some ⟨T2, 0, none⟩)] w8 fun e w' => e = .returned (.int .u64 ((fstP (prts ms) : Nat) : Int)) ∧ w' = w8) := Lib.hid (by
              have := slFirst_any HL8.out.lb HL8.out.row
              rwa [HP8.out] at this)
            have HN2 : Hid (Calls Tryd.prog 15 #[.pointer (some ⟨T2, 0, none⟩)] w8 fun e w' => e = .returned (.int .u64 (k : Nat)) ∧ Kept (fun _ => False) w8 w') := Lib.hid (by
              have := slNext_any HL8.out.lb HL8.out.row (by have := Hfew.out; omega) (by rw [HP8.out, Hnx.out]; omega)
              rwa [HP8.out, Hnx.out] at this)
            have HS2 : Hid (∀ W, Kept (fun _ => False) w8 W → Calls Tryd.prog 16 #[.pointer (some ⟨T2, 0, none⟩)] W fun e w' => ∃ u, e = .returned u ∧ SegAt w' W.heap.size u (prts ms) ∧ Kept (fun _ => False) W w') := Lib.hid fun W hW => by
              have := slSegments_any W T2 F _ v8 ms8 false (HL8.out.lb.kept hW (by simp)) (HL8.out.row.kept hW (by simp)) (by have := Hfew.out; omega)
              rwa [HP8.out] at this
            have HG8 : Hid (SgAt w8 A7 (prts ms)) := Lib.hid (HG7.out.kept HK8.out fun ad e e2 => by
              obtain ⟨A7', c7', h2, -, -, -, h3⟩ := HS7.out.form
              simp only [Value.slice.injEq] at h2
              obtain ⟨rfl, -, rfl⟩ := h2
              obtain ⟨g, rfl, h4⟩ := h3 ad e
              have h5 := own_ge HS7.out g h4
              have h6 := HL.out.ls.lg.f.lt _ e2
              have h7 := HK6.out.size
              simp only at h6
              omega)
            go_wp2_with (first
              | (go_at_call 19; refine HF2.out.mono ?_; rintro e w9 ⟨rfl, rfl⟩)
              | (go_at_call 15; refine HN2.out.mono ?_; rintro e w10 ⟨rfl, hk10⟩; have HK10 := Lib.hid hk10; clear hk10)
              | (go_at_call 16; refine (HS2.out _ HK10.out).mono ?_; rintro e w11 ⟨u11, rfl, hs11, hk11⟩; obtain ⟨A11, c11, rfl, hg11, -, -, -⟩ := hs11.form; rw [← HnG.out]; have HG11 := Lib.hid hg11; have HK11 := Lib.hid (HK10.out.trans' hk11); clear hs11 hg11 hk11)
              | (go_at_call 18; refine (plainSg_eq w11 A11 A7 nG c11 c7 (prts ms) HnG.out (by omega) HG11.out (HG8.out.kept HK11.out (by simp))).mono ?_; rintro e w12 ⟨rfl, hk12⟩; have HK12 := Lib.hid (HK11.out.trans' hk12); clear hk12))
            go_ret
            exact ⟨rfl, HW8.out.trans' HK12.out⟩
end Go.Proofs.YtefpigakhhfcaaaDoor
end
