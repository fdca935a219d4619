import Derived.Test.YthkncfdgfbnchaaGreatDoorZw
/-! courantlaw23.CompactAtOnce, walked. -/
section
set_option linter.unusedVariables false
set_option linter.unusedSimpArgs false
namespace Go.Proofs.YthkncfdgfbnchaaGreatDoor
open Go.RowKit

theorem bound20' : boundI 1048576 = 1048576 := by decide
theorem nAtfull' : fullB (nA ++ dotT) = true := by kernel_rfl
theorem nKT' : nA ++ dotK ≠ nA ++ dotT := by decide
/-- What the second Put leaves of the files. -/
structure Two2 (w8 w9 : World) (T F M : Nat) (ps5 ps9 : List PF) (lim arm9 : Int) (dn9 : Bool) (f1 f2 : List UInt8) (er : Int) : Prop where
  f : ∃ c, FilesAt w9 F M ps9 c lim arm9 dn9
  mv : Moved w8 T F M ps5 ps9 w9
  k : ∃ sf, lk ps9 (nA ++ dotK) = some (f1 ++ f2, sf) ∧ f1.length ≤ sf ∧ (er = 0 → sf = (f1 ++ f2).length)
  o : ∀ s, s ≠ nA ++ dotK → lk ps9 s = none
  er : er = 0 ∨ er = 13
set_option maxRecDepth 100000 in
set_option maxHeartbeats 8000000 in
theorem atOnce_any (w : World) (A0 A1 A3 : Option Addr) (n0 c0 n1 c1 n3 c3 : Nat) (at_ : Int) (ps1 ps2 : List PV) (hn0 : n0 = ps1.length) (hn0' : n0 ≤ 140737488355328) (h0 : PsAt w A0 ps1) (hz0 : ∀ p ∈ ps1, p.Sz) (hn1 : n1 = ps2.length) (hn1' : n1 ≤ 140737488355328) (h1 : PsAt w A1 ps2) (hz1 : ∀ p ∈ ps2, p.Sz)
    (hks : ∀ j, j < n3 → ∃ ad z, A3 = some ad ∧ w.cell? (ad.add j) = some (.int .i64 z)) :
    Calls Tryz.prog 3 #[.slice A0 n0 c0, .slice A1 n1 c1, .int .i64 at_, .slice A3 n3 c3] w fun e w' => e = .returned (.bool true) ∧ Kept (fun _ => False) w w' := by
  have HN := Lib.hid (new_any w 1048576)
  have HF1 : Hid (∀ W, Kept (fun _ => False) w W → Calls Tryz.prog 8 #[.slice A0 n0 c0] W fun e w' => e = .returned (.bool (fewP ps1)) ∧ ∃ m, w' = W.drewN m) := Lib.hid fun W hk => few_any W A0 n0 c0 ps1 hn0 hn0' (h0.kept hk) hz0
  have HF2 : Hid (∀ W, Kept (fun _ => False) w W → Calls Tryz.prog 8 #[.slice A1 n1 c1] W fun e w' => e = .returned (.bool (fewP ps2)) ∧ ∃ m, w' = W.drewN m) := Lib.hid fun W hk => few_any W A1 n1 c1 ps2 hn1 hn1' (h1.kept hk) hz1
  have H0 := Lib.hid h0
  have H1 := Lib.hid h1
  have Hn0 := Lib.hid hn0
  have Hn1 := Lib.hid hn1
  have Hks := Lib.hid hks
  obtain ⟨r1, hr1⟩ : ∃ r, r = fewP ps1 := ⟨_, rfl⟩
  obtain ⟨r2, hr2⟩ : ∃ r, r = fewP ps2 := ⟨_, rfl⟩
  rw [← hr1] at HF1
  rw [← hr2] at HF2
  have Hr1 := Lib.hid hr1
  have Hr2 := Lib.hid hr2
  clear h0 h1 hn0 hn1 hz0 hz1 hks hr1 hr2 hn0' hn1'
  go_enter Tryz.func3, Tryz.ntmps3
  go_upto_region 3 with (first
    | (go_at_call 5; refine HN.out.mono ?_; rintro e w1 ⟨F, M, rfl, hF, hk, hF1, hM1⟩; rw [bound20'] at hF; have HF := Lib.hid hF; have HK1 := Lib.hid hk; have HFs := Lib.hid hF1; have HMs := Lib.hid hM1; clear hF hk hF1 hM1)
    | (go_at_call 6; refine (open_new w1 F M [] 0 1048576 0 nA (by decide) nA_full HF.out (by simp) (by simp)).mono ?_; rintro e w2 ⟨T, rfl, hT, hsb, hk2⟩; have HT := Lib.hid hT; have HSB := Lib.hid hsb; have HK2 := Lib.hid (HK1.out.trans' hk2); have HK12 := Lib.hid hk2; clear hT hsb hk2))
  have Hft : Hid (∀ k ∈ foot F M [], w.heap.size ≤ k ∧ k < w1.heap.size) := Lib.hid (fun k hm => ⟨by
    have h1 := HFs.out; have h2 := HMs.out
    have : k = F ∨ k = M := by simpa [foot] using hm
    omega, HF.out.lt k hm⟩)
  by_cases hfew : r1 = true ∧ r2 = true ∧ n3 ≤ 50
  · obtain ⟨rfl, rfl, h50⟩ := hfew
    have h59 : ¬ (50 : Int) < (n3 : Int) := by omega
    go_upto_region 5 with (first
      | (go_at_call 7; refine (awake23_any w2).mono ?_; rintro e w3 ⟨rfl, hk⟩; have HK3 := Lib.hid (HK2.out.trans' hk); have HK23 := Lib.hid hk; clear hk)
      | (go_at_call 8; (with_reducible refine (HF1.out w3 HK3.out).mono ?_); rintro e w4 ⟨rfl, mm, hw4⟩; have HK4 : Hid (Kept (fun _ => False) w w4) := Lib.hid (by rw [hw4]; exact HK3.out.drewN _); have HK24 : Hid (Kept (fun _ => False) w2 w4) := Lib.hid (by rw [hw4]; exact HK23.out.drewN _); clear hw4)
      | (go_at_call 8; (with_reducible refine (HF2.out w4 HK4.out).mono ?_); rintro e w5 ⟨rfl, mm, hw5⟩; have HK5 : Hid (Kept (fun _ => False) w w5) := Lib.hid (by rw [hw5]; exact HK4.out.drewN _); have HK25 : Hid (Kept (fun _ => False) w2 w5) := Lib.hid (by rw [hw5]; exact HK24.out.drewN _); clear hw5))
    have HTw : Hid (w.heap.size ≤ T) := Lib.hid (by have := HT.out; have := HK1.out.size; omega)
    have HC5 : Hid (CS w5 T F M nA [] 0 1048576 0 false (.slice none 0 0) [] 0 0 false) := Lib.hid (CS.fresh (HF.out.kept (HK12.out.trans' HK25.out) (by simp)) (HSB.out.kept' HK25.out) fun hm => by have := (Hft.out T hm).2; have := HT.out; omega)
    have HS1 := Lib.hid (few_small Hr1.out.symm)
    have HS2 := Lib.hid (few_small Hr2.out.symm)
    have HP0 : Hid (PsF w5 T F M [] A0 ps1) := Lib.hid (PsF.arg H0.out HK5.out HTw.out fun k hk => (Hft.out k hk).1)
    have HP1 : Hid (PsF w5 T F M [] A1 ps2) := Lib.hid (PsF.arg H1.out HK5.out HTw.out fun k hk => (Hft.out k hk).1)
    have HPut1 : Hid (Calls Tryz.prog 9 #[.pointer (some ⟨T, 0, none⟩), .slice A0 n0 c0] w5 fun e w' => e = .returned (.int .i64 0) ∧ ∃ ps6 c6 v6 q6, CS w' T F M nA ps6 c6 1048576 0 false v6 q6 1 (0 + ((bytesP ps1).length + 16)) false ∧ Moved w5 T F M [] ps6 w' ∧ lk ps6 (nA ++ dotK) = some (frameB 0 (bytesP ps1), (frameB 0 (bytesP ps1)).length) ∧ (∀ s, s ≠ nA ++ dotK → lk ps6 s = none) ∧ q6.map PV.core = putC [] (ps1.map PV.core)) := Lib.hid (by
      have hs := HS1.out
      refine (put_D w5 T F M nA [] 0 1048576 0 (.slice none 0 0) [] 0 0 A0 n0 c0 ps1 HC5.out Hn0.out HP0.out (by rw [Hn0.out]; simp; omega) (by simp) (fun q hq => by have := hs.2.1 q hq; unfold wt at this; omega) (by omega) (by omega) (by omega) (by simp [usedL]) (by decide) nA_full).mono ?_
      rintro e w' ⟨er, rfl, (⟨rfl, ps6, c6, v6, q6, h2, h3, h4, h5⟩ | ⟨rfl, h2, -⟩ | ⟨rfl, h2, -⟩)⟩
      · refine ⟨rfl, ps6, c6, v6, q6, h2, h3, ?_, fun s hs => ?_, h5⟩
        · rw [h4, Disk.put_same]; rfl
        · rw [h4, Disk.put_ne _ _ hs]; rfl
      · simp [usedL] at h2; omega
      · exact absurd rfl h2)
    go_upto_region 7 with (go_at_call 9; refine HPut1.out.mono ?_; rintro e w6 ⟨rfl, ps6, c6, v6, q6, h2, h3, h4, h5, h6⟩; have HC6 := Lib.hid h2; have HM6 := Lib.hid h3; have HL6 := Lib.hid h4; have HO6 := Lib.hid h5; have HQ6 := Lib.hid h6; clear h2 h3 h4 h5 h6)
    have HR6 := Lib.hid (refPut_any w6 none A0 0 0 n0 c0 [] ps1 rfl Hn0.out (by have := HS1.out.1; rw [Hn0.out]; omega) (by simp) (fun q hq => by have := HS1.out.2.1 q hq; unfold wt at this; omega) (PsAt.nil _ _) (HP0.out.moved HM6.out).here)
    go_upto_region 8 with (go_at_call 10; refine HR6.out.mono ?_; rintro e w7 ⟨v7, qa, rfl, ho7, hc7⟩; obtain ⟨Aa, ca, hv7, -, hpa⟩ := ho7.psF (M := M) HC6.out.tlt HC6.out.f.lt; subst hv7; have HPa := Lib.hid hpa; have HCa := Lib.hid hc7; have HK7 := Lib.hid ho7.kept; clear ho7 hc7 hpa)
    have HC7 := Lib.hid (HC6.out.stay HK7.out)
    have HM7 := Lib.hid (HM6.out.trans (Moved.stay HK7.out))
    have hla : qa.length ≤ 50 := by
      have h1 := congrArg List.length HCa.out
      have h2 := putC_len [] (ps1.map PV.core)
      have h3 := HS1.out.1
      simp only [List.length_map, List.map_nil, List.length_nil] at h1 h2
      omega
    have HR7 := Lib.hid (refPut_any w7 Aa A1 qa.length ca n1 c1 qa ps2 rfl Hn1.out (by have := HS2.out.1; rw [Hn1.out]; omega) (by
        have h1 : ∀ x ∈ putC [] (ps1.map PV.core), x.2.1.length ≤ 1000000000 := putC_all (Q := fun x => x.2.1.length ≤ 1000000000) (by simp) fun x hx => by
          obtain ⟨p, hp, rfl⟩ := List.mem_map.1 hx
          have := HS1.out.2.1 p hp
          unfold wt at this
          show p.b.length ≤ _
          omega
        rw [← List.map_nil (f := PV.core), ← HCa.out] at h1
        exact fun p hp => h1 _ (List.mem_map_of_mem hp)) (fun q hq => by have := HS2.out.2.1 q hq; unfold wt at this; omega) HPa.out.here (HP1.out.moved HM7.out).here)
    obtain ⟨la, hla'⟩ : ∃ la, la = qa.length := ⟨_, rfl⟩
    rw [← hla'] at HR7
    have Hla := Lib.hid hla'
    rw [← hla']
    clear hla'
    go_upto_region 9 with (go_at_call 10; refine HR7.out.mono ?_; rintro e w8 ⟨v8, qb, rfl, ho8, hc8⟩; obtain ⟨Ab, cb, hv8, -, hpb⟩ := ho8.psF (M := M) HC7.out.tlt HC7.out.f.lt; subst hv8; have HPb := Lib.hid hpb; have HCb := Lib.hid hc8; have HK8 := Lib.hid ho8.kept; clear ho8 hc8 hpb)
    have HC8 := Lib.hid (HC7.out.stay HK8.out)
    have HM8 := Lib.hid (HM7.out.trans (Moved.stay HK8.out))
    obtain ⟨z, hz⟩ : ∃ z, z = wrap64 (1 + wrap64 ((IntKind.u64.wrap at_).tmod 4)) := ⟨_, rfl⟩
    have hz9 : 1 ≤ z ∧ z ≤ 4 := by
      have h1 : 0 ≤ IntKind.u64.wrap at_ := by rw [IntKind.wrap_u64]; omega
      have h2 : (IntKind.u64.wrap at_).tmod 4 = (IntKind.u64.wrap at_) % 4 := Int.tmod_eq_emod_of_nonneg h1
      have h3 : 0 ≤ (IntKind.u64.wrap at_) % 4 ∧ (IntKind.u64.wrap at_) % 4 < 4 := by omega
      rw [hz, h2]
      unfold wrap64
      omega
    have Hz := Lib.hid hz.symm
    have Hz9 := Lib.hid hz9
    clear hz hz9
    go_upto_region 10 with (go_at_call 11; rw [Hz.out]; refine (arm_any z w8 F M 1048576 0 false HC8.out.f.fb).mono ?_; rintro e w9 ⟨rfl, hfb, hk⟩; rw [show armI z = z from (by have := Hz9.out; unfold armI; split <;> omega)] at hfb; have HC9 := Lib.hid (HC8.out.armed hfb hk (by decide) (by have := Hz9.out; omega)); have HMa := Lib.hid (Moved.hit (T := T) (M := M) (ps := ps6) hk); clear hfb hk)
    have HM9 := Lib.hid (HM8.out.trans HMa.out)
    have HU9 : Hid (usedL ps6 = (bytesP ps1).length + 16) := Lib.hid (by
      have h1 := (only_D HC9.out.f.names HO6.out).2.2
      rw [HL6.out] at h1
      rw [h1]; show (frameB 0 (bytesP ps1)).length = _; rw [frameB_len])
    have HPut2 : Hid (Calls Tryz.prog 9 #[.pointer (some ⟨T, 0, none⟩), .slice A1 n1 c1] w9 fun e w' => ∃ er ps10 arm10 dn10, e = .returned (.int .i64 er) ∧ Two2 w9 w' T F M ps6 ps10 1048576 arm10 dn10 (frameB 0 (bytesP ps1)) (frameB 1 (bytesP ps2)) er) := Lib.hid (by
      have hs := HS1.out
      have hs2 := HS2.out
      have hl6 : q6.length ≤ 50 := by
        have h1 := congrArg List.length HQ6.out
        have h2 := putC_len [] (ps1.map PV.core)
        simp only [List.length_map, List.length_nil] at h1 h2
        omega
      have hb6 : ∀ q ∈ q6, q.b.length ≤ 1000000000 := by
        have h1 : ∀ x ∈ putC [] (ps1.map PV.core), x.2.1.length ≤ 1000000000 := putC_all (Q := fun x => x.2.1.length ≤ 1000000000) (by simp) fun x hx => by
          obtain ⟨p, hp, rfl⟩ := List.mem_map.1 hx
          have := hs.2.1 p hp
          unfold wt at this
          show p.b.length ≤ _
          omega
        rw [← HQ6.out] at h1
        exact fun p hp => h1 _ (List.mem_map_of_mem hp)
      refine (put_D w9 T F M nA ps6 c6 1048576 z v6 q6 1 _ A1 n1 c1 ps2 HC9.out Hn1.out (HP1.out.moved HM9.out) (by rw [Hn1.out]; omega) hb6 (fun q hq => by have := hs2.2.1 q hq; unfold wt at this; omega) (by omega) (by omega) (by omega) (by rw [HU9.out]; omega) (by decide) nA_full).mono ?_
      rintro e w' ⟨er, rfl, (⟨rfl, ps7, c7, v7, q7, h2, h3, h4, h5⟩ | ⟨rfl, h2, -⟩ | ⟨rfl, h2, ps7, c7, a7, h3, h4, h5⟩)⟩
      · refine ⟨0, ps7, _, _, rfl, ⟨c7, h2.f⟩, h3, ?_, fun s hs => ?_, .inl rfl⟩
        · refine ⟨(frameB 0 (bytesP ps1) ++ frameB 1 (bytesP ps2)).length, ?_, by rw [List.length_append]; omega, fun _ => rfl⟩
          rw [h4, Disk.put_same, HL6.out]; rfl
        · rw [h4, Disk.put_ne _ _ hs]; exact HO6.out s hs
      · rw [HU9.out] at h2; omega
      · refine ⟨13, ps7, _, _, rfl, ⟨c7, h3.f⟩, h4, ?_, fun s hs => ?_, .inr rfl⟩
        · refine ⟨(frameB 0 (bytesP ps1)).length, ?_, Nat.le_refl _, fun e => by cases e⟩
          rw [h5, Disk.put_same, HL6.out]; rfl
        · rw [h5, Disk.put_ne _ _ hs]; exact HO6.out s hs)
    go_upto_region 11 with (go_at_call 9; refine HPut2.out.mono ?_; rintro e w10 ⟨er, ps10, arm10, dn10, rfl, h2⟩; have HT2 := Lib.hid h2; clear h2)
    have HM10 : Hid (Moved w5 T F M [] ps10 w10) := Lib.hid (HM9.out.trans HT2.out.mv)
    have HNw : Hid (∀ k ∈ foot F M ps10, w.heap.size ≤ k) := Lib.hid (HM10.out.new HK5.out.size fun k hk => (Hft.out k hk).1)
    have HK10 : Hid (Kept (fun _ => False) w w10) := Lib.hid (HM10.out.none_ HK5.out HTw.out fun k hk => (Hft.out k hk).1)
    have HCr : Hid (Calls Tryz.prog 12 #[.pointer (some ⟨F, 0, none⟩), .slice A3 n3 c3] w10 fun e w' => e = .returned (.tuple #[]) ∧ ∃ ps11 c11 arm11, FilesAt w' F M ps11 c11 1048576 arm11 true ∧ Moved w10 T F M ps10 ps11 w' ∧ ∀ s, FellV (lk ps10 s) (lk ps11 s)) := Lib.hid (by
      obtain ⟨c10, hf⟩ := HT2.out.f
      have hsm := only_small hf.names HT2.out.o (by decide)
      refine (crash_any w10 F M ps10 c10 1048576 arm10 dn10 A3 n3 c3 hf hsm.1 hsm.2 (Lib.hid fun j hj => ?_)).mono ?_
      · obtain ⟨ad, zz, e, hc⟩ := Hks.out j hj
        refine ⟨ad, zz, e, fun hm => ?_, HK10.out.cell hc (by simp)⟩
        have h2 := World.block_lt_of_cell? w _ hc
        rw [add_block] at h2
        have := HNw.out _ hm
        omega
      · rintro e w' ⟨he, qs, hw, ha⟩
        exact ⟨he, qs, c10, arm10, hw.at_, Moved.went hw, ha.fell⟩)
    go_upto_region 12 with (go_at_call 12; refine HCr.out.mono ?_; rintro e w11 ⟨rfl, ps11, c11, arm11, hf11, hm11, hv11⟩; have HF11 := Lib.hid hf11; have HM11 := Lib.hid hm11; have HV11 := Lib.hid hv11; clear hf11 hm11 hv11)
    have HSt : Hid (Calls Tryz.prog 13 #[.pointer (some ⟨F, 0, none⟩)] w11 fun e w' => e = .returned (.tuple #[]) ∧ ∃ ps12 c12, FilesAt w' F M ps12 c12 1048576 0 false ∧ Moved w11 T F M ps11 ps12 w' ∧ ∀ s, FellV (lk ps11 s) (lk ps12 s)) := Lib.hid (by
      have hsm := only_small (nk := nA ++ dotK) HF11.out.names (fun s hs => by have h1 := HV11.out s; rw [HT2.out.o s hs] at h1; exact h1.of_none) (by decide)
      refine (start_down w11 F M ps11 c11 1048576 arm11 HF11.out hsm.1 hsm.2).mono ?_
      rintro e w' ⟨he, qs, hw, ha⟩
      exact ⟨he, qs, c11, hw.at_, Moved.went hw, ha.fell⟩)
    go_upto_region 13 with (go_at_call 13; refine HSt.out.mono ?_; rintro e w12 ⟨rfl, ps12, c12, hf12, hm12, hv12⟩; have HF12 := Lib.hid hf12; have HM12 := Lib.hid hm12; have HV12 := Lib.hid hv12; clear hf12 hm12 hv12)
    obtain ⟨parts, tl, hkis, hparts, hwhole⟩ : ∃ parts tl, KIs (lk ps12 (nA ++ dotK)) parts tl ∧ (parts = [ps1] ∨ parts = [ps1, ps2]) ∧ (er = 0 → parts = [ps1, ps2]) := by
      obtain ⟨sf, h1, h2, h3⟩ := HT2.out.k
      have h4 := HV11.out (nA ++ dotK)
      rw [h1] at h4
      obtain ⟨k1, h5, h6, h7⟩ := h4.of_some
      have h8 := HV12.out (nA ++ dotK)
      rw [h7] at h8
      obtain ⟨k2, h9, h10, h11⟩ := h8.of_some
      rw [List.length_take] at h10
      obtain ⟨parts, tl, g1, g2, g3⟩ := kis_two Hr1.out.symm Hr2.out.symm (j := k2) (by omega) (by omega)
      refine ⟨parts, tl, ?_, g2, fun e0 => g3 (by have := h3 e0; omega)⟩
      rw [h11, List.take_take, Nat.min_eq_left (by omega)]
      exact g1
    have HOp := Lib.hid (open_D w12 F M ps12 c12 1048576 0 nA parts tl (by decide) nA_full nKT' HF12.out hkis)
    have HPt := Lib.hid hparts
    have HWh := Lib.hid hwhole
    clear hkis hparts hwhole
    go_upto_region 14 with (go_at_call 6; refine HOp.out.mono ?_; rintro e w13 (⟨-, h0, -⟩ | ⟨T2, ps13, c13, arm13, v13, q13, rfl, hT2, hC, hk, hft, -, -, hq, -⟩); exact absurd rfl h0; have HC13 := Lib.hid hC; have HM13 : Hid (Moved w12 T F M ps12 ps13 w13) := Lib.hid (Moved.opened hk hft); have HQ13 := Lib.hid hq; clear hT2 hC hk hft hq)
    have HPb13 : Hid (PsF w13 T F M ps13 Ab qb) := Lib.hid (((((HPb.out.moved HMa.out).moved HT2.out.mv).moved HM11.out).moved HM12.out).moved HM13.out)
    have HPa13 : Hid (PsF w13 T F M ps13 Aa qa) := Lib.hid ((((((HPa.out.moved (Moved.stay HK8.out)).moved HMa.out).moved HT2.out.mv).moved HM11.out).moved HM12.out).moved HM13.out)
    have hla2 : la ≤ 50 := by rw [Hla.out]; exact hla
    have HQ0 : Hid (∀ x ∈ foldP parts, x.2.1.length ≤ 1000000000) := Lib.hid (foldP_all (Q := fun x => x.2.1.length ≤ 1000000000) fun l hl p hp => by
      show p.b.length ≤ _
      have g1 := HS1.out.2.1
      have g2 := HS2.out.2.1
      rcases HPt.out with h | h <;> rw [h] at hl <;> simp only [List.mem_cons, List.not_mem_nil, or_false] at hl
      · subst hl; have := g1 p hp; unfold wt at this; omega
      · rcases hl with rfl | rfl
        · have := g1 p hp; unfold wt at this; omega
        · have := g2 p hp; unfold wt at this; omega)
    have hql : q13.length ≤ 200 := by
      have h1 := congrArg List.length HQ13.out
      have h2 := foldP_len parts
      have g1 := HS1.out.1
      have g2 := HS2.out.1
      rw [List.length_map] at h1
      rcases HPt.out with h | h <;> rw [h] at h2 <;> simp at h2 <;> rw [h] at h1 <;> omega
    have HAll : Hid (∀ W, Kept (fun _ => False) w13 W → Calls Tryz.prog 15 #[.pointer (some ⟨T2, 0, none⟩)] W fun e w' => ∃ A' c' q', e = .returned (.slice A' q'.length c') ∧ PsAt w' A' q' ∧ q'.map PV.core = foldP parts ∧ q'.length ≤ 200 ∧ Kept (fun _ => False) W w') := Lib.hid fun W hW => by
      refine (call_D W T2 F M nA ps13 c13 1048576 _ false false v13 q13 _ _ (HC13.out.stay hW) (by omega) (fun q hq => ?_)).mono ?_
      · have h1 := HQ0.out
        rw [← HQ13.out] at h1
        exact h1 _ (List.mem_map_of_mem hq)
      · rintro e w' ⟨A', c', q', rfl, -, hp, hc, hk⟩
        have hc2 : q'.map PV.core = q13.map PV.core := hc
        refine ⟨A', c', q', rfl, hp, hc2.trans HQ13.out, ?_, hk⟩
        have := congrArg List.length hc2
        simp only [List.length_map] at this
        omega
    have HEnd : Hid (∀ W, Kept (fun _ => False) w13 W → Kept (fun _ => False) w W) := Lib.hid fun W hW =>
      ((((HM10.out.trans HM11.out).trans HM12.out).trans HM13.out).none_ HK5.out HTw.out fun k hk => (Hft.out k hk).1).trans' hW
    have HEqb : Hid (∀ W A' c' (q' : List PV), Kept (fun _ => False) w13 W → PsAt W A' q' → q'.map PV.core = foldP parts → q'.length ≤ 200 → Calls Tryz.prog 14 #[.slice A' q'.length c', .slice Ab qb.length cb] W fun e w' => e = .returned (.bool (decide (foldP parts = qb.map PV.core))) ∧ Kept (fun _ => False) W w') := Lib.hid fun W A' c' q' hW hp hc hl => by
      have h1 := pairs_any W A' Ab q'.length qb.length c' cb q' qb rfl rfl (by omega) hp (HPb13.out.here.kept hW)
      rwa [hc] at h1
    have HEqa : Hid (∀ W A' c' (q' : List PV), Kept (fun _ => False) w13 W → PsAt W A' q' → q'.map PV.core = foldP parts → q'.length ≤ 200 → Calls Tryz.prog 14 #[.slice A' q'.length c', .slice Aa la ca] W fun e w' => e = .returned (.bool (decide (foldP parts = qa.map PV.core))) ∧ Kept (fun _ => False) W w') := Lib.hid fun W A' c' q' hW hp hc hl => by
      have h1 := pairs_any W A' Aa q'.length la c' ca q' qa rfl Hla.out (by omega) hp (HPa13.out.here.kept hW)
      rwa [hc] at h1
    have HCora : Hid (parts = [ps1] → foldP parts = qa.map PV.core) := Lib.hid fun h => by rw [h, HCa.out]; rfl
    have HCorb : Hid (parts = [ps1, ps2] → foldP parts = qb.map PV.core) := Lib.hid fun h => by rw [h, HCb.out, HCa.out]; rfl
    obtain ⟨lb, hlb⟩ : ∃ lb, lb = qb.length := ⟨_, rfl⟩
    rw [← hlb] at HEqb ⊢
    have Hlb := Lib.hid hlb
    clear hlb hla hla2 hql
    by_cases hb : foldP parts = qb.map PV.core
    · have HB := Lib.hid hb
      have HEqb' := HEqb
      simp only [decide_eq_true hb] at HEqb'
      clear hb HEqb HEqa
      rcases HT2.out.er with rfl | rfl
      all_goals
        go_wp2_with (first
          | (go_at_call 15; refine (HAll.out w13 (Kept.refl _ _)).mono ?_; rintro e w14 ⟨A14, c14, q14, rfl, hp14, hc14, hl14, hk14⟩; have HP14 := Lib.hid (HEqb'.out w14 A14 c14 q14 hk14 hp14 hc14 hl14); have HK14 := Lib.hid hk14; clear hp14 hc14 hl14 hk14)
          | (go_at_call 14; refine HP14.out.mono ?_; rintro e w15 ⟨rfl, hk15⟩; have HK15 := Lib.hid (HK14.out.trans' hk15); clear hk15))
        go_ret
        exact ⟨rfl, HEnd.out _ HK15.out⟩
    · have HB := Lib.hid hb
      have HEqb' := HEqb
      simp only [decide_eq_false hb] at HEqb'
      have ha : parts = [ps1] := HPt.out.resolve_right fun h => hb (HCorb.out h)
      have HEqa' := HEqa
      simp only [decide_eq_true (HCora.out ha)] at HEqa'
      have her : er ≠ 0 := fun h => by
        have h1 := HWh.out h
        rw [ha] at h1
        simp at h1
      obtain rfl : er = 13 := HT2.out.er.resolve_left her
      clear hb HEqb HEqa ha her
      go_wp2_with (first
        | (go_at_call 15; refine (HAll.out w15 HK15.out).mono ?_; rintro e w16 ⟨A16, c16, q16, rfl, hp16, hc16, hl16, hk16⟩; have HP16 := Lib.hid (HEqa'.out w16 A16 c16 q16 (HK15.out.trans' hk16) hp16 hc16 hl16); have HK16 := Lib.hid (HK15.out.trans' hk16); clear hp16 hc16 hl16 hk16)
        | (go_at_call 15; refine (HAll.out w13 (Kept.refl _ _)).mono ?_; rintro e w14 ⟨A14, c14, q14, rfl, hp14, hc14, hl14, hk14⟩; have HP14 := Lib.hid (HEqb'.out w14 A14 c14 q14 hk14 hp14 hc14 hl14); have HK14 := Lib.hid hk14; clear hp14 hc14 hl14 hk14)
        | (go_at_call 14; refine HP16.out.mono ?_; rintro e w17 ⟨rfl, hk17⟩; have HK17 := Lib.hid (HK16.out.trans' hk17); clear hk17)
        | (go_at_call 14; refine HP14.out.mono ?_; rintro e w15 ⟨rfl, hk15⟩; have HK15 := Lib.hid (HK14.out.trans' hk15); clear hk15))
      go_ret
      exact ⟨rfl, HEnd.out _ HK17.out⟩
  · cases r1
    · go_upto_region 4 with (first
        | (go_at_call 7; refine (awake23_any w2).mono ?_; rintro e w3 ⟨rfl, hk⟩; have HK3 := Lib.hid (HK2.out.trans' hk); clear hk)
        | (go_at_call 8; (with_reducible refine (HF1.out w3 HK3.out).mono ?_); rintro e w4 ⟨rfl, mm, hw4⟩; have HK4 : Hid (Kept (fun _ => False) w w4) := Lib.hid (by rw [hw4]; exact HK3.out.drewN _); clear hw4)
        | (go_at_call 8; (with_reducible refine (HF2.out w4 HK4.out).mono ?_); rintro e w5 ⟨rfl, mm, hw5⟩; have HK5 : Hid (Kept (fun _ => False) w w5) := Lib.hid (by rw [hw5]; exact HK4.out.drewN _); clear hw5))
      go_wp2_with (go_at_call 7; refine (awake23_any _).mono ?_; rintro e w6 ⟨rfl, hk⟩; have HK6 := Lib.hid (HK4.out.trans' hk); clear hk)
      go_ret
      exact ⟨rfl, HK6.out⟩
    · cases r2
      · go_upto_region 4 with (first
        | (go_at_call 7; refine (awake23_any w2).mono ?_; rintro e w3 ⟨rfl, hk⟩; have HK3 := Lib.hid (HK2.out.trans' hk); clear hk)
        | (go_at_call 8; (with_reducible refine (HF1.out w3 HK3.out).mono ?_); rintro e w4 ⟨rfl, mm, hw4⟩; have HK4 : Hid (Kept (fun _ => False) w w4) := Lib.hid (by rw [hw4]; exact HK3.out.drewN _); clear hw4)
        | (go_at_call 8; (with_reducible refine (HF2.out w4 HK4.out).mono ?_); rintro e w5 ⟨rfl, mm, hw5⟩; have HK5 : Hid (Kept (fun _ => False) w w5) := Lib.hid (by rw [hw5]; exact HK4.out.drewN _); clear hw5))
        go_wp2_with (go_at_call 7; refine (awake23_any _).mono ?_; rintro e w6 ⟨rfl, hk⟩; have HK6 := Lib.hid (HK5.out.trans' hk); clear hk)
        go_ret
        exact ⟨rfl, HK6.out⟩
      · have h59 : (50 : Int) < (n3 : Int) := by
          have h1 : ¬ n3 ≤ 50 := fun h => hfew ⟨rfl, rfl, h⟩
          omega
        go_upto_region 4 with (first
        | (go_at_call 7; refine (awake23_any w2).mono ?_; rintro e w3 ⟨rfl, hk⟩; have HK3 := Lib.hid (HK2.out.trans' hk); clear hk)
        | (go_at_call 8; (with_reducible refine (HF1.out w3 HK3.out).mono ?_); rintro e w4 ⟨rfl, mm, hw4⟩; have HK4 : Hid (Kept (fun _ => False) w w4) := Lib.hid (by rw [hw4]; exact HK3.out.drewN _); clear hw4)
        | (go_at_call 8; (with_reducible refine (HF2.out w4 HK4.out).mono ?_); rintro e w5 ⟨rfl, mm, hw5⟩; have HK5 : Hid (Kept (fun _ => False) w w5) := Lib.hid (by rw [hw5]; exact HK4.out.drewN _); clear hw5))
        go_wp2_with (go_at_call 7; refine (awake23_any _).mono ?_; rintro e w6 ⟨rfl, hk⟩; have HK6 := Lib.hid (HK5.out.trans' hk); clear hk)
        go_ret
        exact ⟨rfl, HK6.out⟩
end Go.Proofs.YthkncfdgfbnchaaGreatDoor
end
