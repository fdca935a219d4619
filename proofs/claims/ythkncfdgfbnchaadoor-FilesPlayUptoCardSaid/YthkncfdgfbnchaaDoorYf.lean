import Derived.Test.YthkncfdgfbnchaaDoorYe
import Derived.Test.YthkncfdgfbnchaaDoorYa
/-! courantref16: Crash, walked. -/
section
set_option linter.unusedVariables false
set_option linter.unusedSimpArgs false
namespace Go.Proofs.YthkncfdgfbnchaaDoor
open Go.RowKit

set_option maxRecDepth 100000 in
set_option maxHeartbeats 8000000 in
theorem rcrash_ex (zs : List Int) (w : World) (R : Nat) (v : Value) (rs : List RV) (most fuse : Int) (dn : Bool) (A : Option Addr) (n c : Nat) (h : RefAt w R v rs most fuse dn) (hks : ∀ j, j < n → ∃ ad, A = some ad ∧ ad.block ∉ rfoot R v rs ∧ w.cell? (ad.add j) = some (.int .i64 (zs.getD j 0))) :
    Calls Tryd.prog 58 #[.pointer (some ⟨R, 0, none⟩), .slice A n c] w fun e w' => e = .returned (.tuple #[]) ∧ ∃ rs', RWent w w' R v rs v rs' most fuse true ∧ FallK n zs rs rs' rs.length := by
  have H := Lib.hid h
  have HKs := Lib.hid hks
  have f3 := h.rb.fz 3
  have c3 := h.rb.c3
  obtain ⟨N, hN⟩ : ∃ N, N = rs.length := ⟨_, rfl⟩
  have hN9 : (N : Int) ≤ 1000 := by have := h.few; omega
  have HN := Lib.hid hN
  obtain ⟨W1, hW1⟩ : ∃ W1, W1 = w.setCell ⟨R, 3, none⟩ (.bool true) := ⟨_, rfl⟩
  have HW1 : Hid (RWent w W1 R v rs v rs most fuse true) := Lib.hid (by
    have hk := kF w R 3 (.bool true)
    rw [← hW1] at hk
    exact h.fields (by rw [hW1]; exact h.rb.s3 true) hk h.most0 h.fuse0)
  have HW1e := Lib.hid hW1
  clear h hks hN hW1
  go_enter Tryd.func58, Tryd.ntmps58
  go_wp2_with fail
  rw [← HW1e.out]
  go_loopw [4, 5, 6, 7, 8] (fun i k _ _ _ wr => ∃ q : Nat, q ≤ N ∧ k = .int .i64 q ∧ i = .int .i64 (cntR rs q : Nat) ∧ Hid (∃ rs', RWent w wr R v rs v rs' most fuse true ∧ FallK n zs rs rs' q)) (fun _ k _ _ _ _ => N - (intOf k).toNat)
  case atStart => exact ⟨0, by omega, rfl, by simp [cntR], Lib.hid ⟨rs, HW1.out, FallK.start _ _ _⟩⟩
  case round =>
    obtain ⟨q, hq, rfl, rfl, hI⟩ := hrel
    have g0 : ∃ Av cv, wr.cell? ⟨R, 0, none⟩ = some (.slice Av N cv) := by
      obtain ⟨rs', hw, hf⟩ := hI.out
      obtain ⟨Av, cv, hv, -⟩ := hw.at_.form
      have h0 := hw.at_.rb.c0
      rw [hv, hf.len, ← HN.out] at h0
      exact ⟨Av, cv, h0⟩
    by_cases hlt : q < N
    · clear g0
      obtain ⟨r, hr⟩ : ∃ r, rs[q]? = some r := ⟨_, List.getElem?_eq_getElem (by have := HN.out; omega)⟩
      obtain ⟨rs', hw, hf⟩ := hI.out
      obtain ⟨a, b, rfl, ha⟩ := hf.split hr
      have hq9 : (q : Int) < (N : Int) := by omega
      have hlen := hf.len
      obtain ⟨Av, cv, hv, hform⟩ := hw.at_.form
      obtain ⟨G, rfl, hG, -, hc1, hc2, hfz⟩ := hform.at_ (show (a ++ r :: b)[a.length]? = some r by simp)
      obtain ⟨A0, c0, hrv, hbs, hA0⟩ := (hw.at_.at_ r (by simp)).bs
      have hcap : r.b.length ≤ c0 := by have := (hw.at_.at_ r (by simp)).own; rw [hrv] at this; exact (own_cap this).1
      rw [hrv] at hc1
      have h0 := hw.at_.rb.c0
      rw [hv, hlen, ← HN.out] at h0
      rw [ha] at hc1 hc2 hfz
      have hf1 := hfz 1 (by omega)
      have hf2 := hfz 2 (by omega)
      have hps := (hw.at_.at_ r (by simp)).safe
      have hpl := (hw.at_.at_ r (by simp)).len
      have HAG : Hid (∀ x, A0 = some x → x.block ≠ G) := Lib.hid fun x hx e => (hw.at_.sep r (by simp) x.block (by rw [hrv, hx]; rfl)).2 (by rw [hG, e])
      have HW := Lib.hid hw
      have HF := Lib.hid hf
      have Hr := Lib.hid hr
      have Ha := Lib.hid ha
      have HG := Lib.hid hG
      have HBs := Lib.hid hbs
      have HA0 := Lib.hid hA0
      obtain ⟨iv, hiv⟩ : ∃ iv, iv = cntR rs q := ⟨_, rfl⟩
      have hiv9 : (iv : Int) ≤ 1000 := by have := cntR_le rs q; omega
      have Hiv := Lib.hid hiv
      have hs9 : (r.safe : Int) ≤ (r.b.length : Int) := by omega
      have hl9 : (r.b.length : Int) ≤ 4194304 := by omega
      rw [← hiv]
      clear hI hw hf hr ha hv hG hbs hA0 hrv hform hfz hiv hlen
      by_cases hfull : r.safe = r.b.length
      · have hb1 : ((r.b.length : Int) - (r.safe : Int) == 0) = true := by rw [beq_iff_eq]; omega
        go_upto_region 6 with fail
        go_quiet (fail)
        go_wp2
        have hst := HF.out.step Hr.out Ha.out (r' := r) ⟨rfl, by unfold keepN; rw [if_pos hfull, Nat.add_zero, hfull, List.take_length], by unfold keepN; rw [if_pos hfull, Nat.add_zero]⟩
        have hcs := cntR_succ rs q r Hr.out
        rw [if_pos hfull, Nat.add_zero, ← Hiv.out] at hcs
        have hwd : RWent w (wr.drewN nq) R v rs v (a ++ r :: b) most fuse true := HW.out.trans ⟨HW.out.at_.kept ((Kept.refl (fun _ => False) wr).drewN nq) (by simp), ((Kept.refl (fun _ => False) wr).drewN nq).mono fun _ _ h => h.elim, fun k hk => .inl hk⟩
        exact ⟨⟨q + 1, by omega, by go_num, by rw [hcs]; rfl, Lib.hid ⟨_, hwd, hst⟩⟩, by simp [intOf]; omega⟩
      · have hb1 : ((r.b.length : Int) - (r.safe : Int) == 0) = false := by rw [beq_eq_false_iff_ne]; omega
        by_cases hkeep : iv < n
        · obtain ⟨ad, rfl, hno, hz⟩ := HKs.out iv hkeep
          obtain ⟨z, hzz⟩ : ∃ z, z = zs.getD iv 0 := ⟨_, rfl⟩
          rw [← hzz] at hz
          have Hzz := Lib.hid hzz
          have hzW := HW.out.kept.cell hz (by rw [add_block]; exact hno)
          have hk9 : (iv : Int) < (n : Int) := by omega
          have hls : (0 : Int) < (r.b.length : Int) - (r.safe : Int) := by omega
          clear hz hno hzz
          go_upto_region 6 with fail
          go_quiet (fail)
          go_upto_region 12 with fail
          obtain ⟨m, hm⟩ : ∃ m : Nat, m = (max 0 (min z ((r.b.length : Int) - (r.safe : Int)))).toNat := ⟨_, rfl⟩
          have hmI : (max 0 (min z ((r.b.length : Int) - (r.safe : Int)))) = (m : Int) := by omega
          have hsm : r.safe + m ≤ r.b.length := by omega
          have HmE := Lib.hid (show r.safe + m = r.safe + keepN n zs iv r.safe r.b.length by unfold keepN; rw [if_neg hfull, if_pos hkeep, ← Hzz.out, hm])
          rw [hmI]
          clear hm hmI
          obtain ⟨w2, hw2⟩ : ∃ w2, w2 = wr.drewN nq := ⟨_, rfl⟩
          have hk2 : Kept (fun _ => False) wr w2 := by rw [hw2]; exact (Kept.refl (fun _ => False) wr).drewN nq
          rw [← hw2]
          have HW2 : Hid (RWent w w2 R v rs v (a ++ r :: b) most fuse true) := Lib.hid (HW.out.trans ⟨HW.out.at_.kept hk2 (by simp), hk2.mono fun _ _ h => h.elim, fun k hk => .inl hk⟩)
          have d1 := hk2.cell hc1 (by simp)
          have d2 := hk2.cell hc2 (by simp)
          have hGlt : G < wr.heap.size := World.block_lt_of_cell? wr ⟨G, q * 3 + 1, none⟩ hc1
          have z1 : w2.frozen? ⟨G, q * 3 + 1, none⟩ = false := by rw [← hf1]; exact World.frozen?_of_block (hk2.block G hGlt (by simp))
          have z2 : w2.frozen? ⟨G, q * 3 + 2, none⟩ = false := by rw [← hf2]; exact World.frozen?_of_block (hk2.block G hGlt (by simp))
          have HBs2 := Lib.hid (HBs.out.kept hk2 (by simp))
          have hAG := HAG.out
          clear hw2 hk2 hc1 hc2 hf1 hf2 hGlt h0 hb1
          go_upto_region 13 with fail
          obtain ⟨W3, hW3⟩ : ∃ W3, W3 = w2.setCell ⟨G, q * 3 + 2, none⟩ (.int .i64 ((r.safe : Int) + (m : Int))) := ⟨_, rfl⟩
          have e1 : W3.cell? ⟨G, q * 3 + 1, none⟩ = some (.slice A0 r.b.length c0) := by rw [hW3, cell_off w2 G (q * 3 + 2) (q * 3 + 1) _ (by omega)]; exact d1
          have e2 : W3.cell? ⟨G, q * 3 + 2, none⟩ = some (.int .i64 ((r.safe : Int) + (m : Int))) := by rw [hW3]; exact World.cell?_setCell_same' _ _ _ (by rw [d2]; rfl)
          have y1 : W3.frozen? ⟨G, q * 3 + 1, none⟩ = false := by rw [hW3, World.frozen?_setCell]; exact z1
          have HK3 : Hid (Kept (fun k => k = G) w2 W3) := Lib.hid (by rw [hW3]; exact kF w2 G _ _)
          have HBs3 := Lib.hid (HBs2.out.kept HK3.out hAG)
          rw [← hW3]
          have HW3 := Lib.hid hW3
          have hbc : ((r.safe : Int) + (m : Int)) ≤ (c0 : Int) := by omega
          have hb0 : (0 : Int) ≤ ((r.safe : Int) + (m : Int)) := by omega
          have HS0 : Hid (∀ W, Kept (fun _ => False) W3 W → W.cell? ⟨G, q * 3 + 2, none⟩ = some (.int .i64 ((r.safe : Int) + (m : Int))) ∧ W.cell? ⟨G, q * 3 + 1, none⟩ = some (.slice A0 r.b.length c0) ∧ W.frozen? ⟨G, q * 3 + 1, none⟩ = false) := Lib.hid fun W hW => by
            have hlt3 : G < W3.heap.size := World.block_lt_of_cell? W3 ⟨G, q * 3 + 1, none⟩ e1
            exact ⟨hW.cell e2 (by simp), hW.cell e1 (by simp), by rw [← y1]; exact World.frozen?_of_block (hW.block G hlt3 (by simp))⟩
          clear hW3 d1 d2 z1 z2 hAG
          go_region_law (first
            | (go_simp; go_at_call 20; rw [show (((r.safe : Int) + (m : Int))).toNat = (r.safe + m) by omega]; refine (copy_any _ A0 (r.safe + m) c0 (r.b.take (r.safe + m)) (by rw [List.length_take]; omega) (by omega) ⟨fun e => by have := HBs3.out.1 e; simp [this], fun ad e j u hu => (HBs3.out.kept ((Kept.refl (fun _ => False) W3).drew) (by simp)).2 ad e j u (by rw [List.map_take, List.getElem?_take] at hu; split at hu; exact hu; cases hu)⟩ HA0.out).mono ?_; rintro e w4 ⟨v4, rfl, hown, hk4⟩; rw [show (r.b.take (r.safe + m)).length = (r.safe + m) by rw [List.length_take]; omega] at hown; obtain ⟨A4, c4, rfl⟩ := own_slice hown; have HV4 := Lib.hid hown; have HK4 := Lib.hid (((Kept.refl (fun _ => False) W3).drew).trans' hk4); obtain ⟨hs4, hc4, hd4⟩ := HS0.out _ HK4.out; clear hown hk4))
          all_goals go_wp2
          all_goals
            have hE := both_end2 (s := (r.safe + m)) HW2.out.at_ HG.out ((r.safe : Int) + (m : Int)) (by omega) (by rw [Ha.out]; exact HW3.out) HK4.out HV4.out hsm
            rw [Ha.out] at hE
            have hst := HF.out.step Hr.out Ha.out (r' := { r with b := r.b.take (r.safe + m), val := .slice A4 (r.safe + m) c4, safe := (r.safe + m) }) ⟨rfl, by rw [← Hiv.out, ← HmE.out], by rw [← Hiv.out, ← HmE.out]⟩
            have hcs := cntR_succ rs q r Hr.out
            rw [if_neg hfull, ← Hiv.out] at hcs
            exact ⟨⟨q + 1, by omega, by go_num, by rw [hcs]; go_num, Lib.hid ⟨_, HW2.out.trans hE, hst⟩⟩, by simp [intOf]; omega⟩
        · have hk9 : ¬ (iv : Int) < (n : Int) := by omega
          go_upto_region 6 with fail
          go_quiet (fail)
          go_upto_region 12 with fail
          have hsm : r.safe ≤ r.b.length := hps
          have HmE := Lib.hid (show r.safe = r.safe + keepN n zs iv r.safe r.b.length by unfold keepN; rw [if_neg hfull, if_neg hkeep, Nat.add_zero])
          obtain ⟨w2, hw2⟩ : ∃ w2, w2 = wr.drewN nq := ⟨_, rfl⟩
          have hk2 : Kept (fun _ => False) wr w2 := by rw [hw2]; exact (Kept.refl (fun _ => False) wr).drewN nq
          rw [← hw2]
          have HW2 : Hid (RWent w w2 R v rs v (a ++ r :: b) most fuse true) := Lib.hid (HW.out.trans ⟨HW.out.at_.kept hk2 (by simp), hk2.mono fun _ _ h => h.elim, fun k hk => .inl hk⟩)
          have d1 := hk2.cell hc1 (by simp)
          have d2 := hk2.cell hc2 (by simp)
          have hGlt : G < wr.heap.size := World.block_lt_of_cell? wr ⟨G, q * 3 + 1, none⟩ hc1
          have z1 : w2.frozen? ⟨G, q * 3 + 1, none⟩ = false := by rw [← hf1]; exact World.frozen?_of_block (hk2.block G hGlt (by simp))
          have z2 : w2.frozen? ⟨G, q * 3 + 2, none⟩ = false := by rw [← hf2]; exact World.frozen?_of_block (hk2.block G hGlt (by simp))
          have HBs2 := Lib.hid (HBs.out.kept hk2 (by simp))
          have hAG := HAG.out
          clear hw2 hk2 hc1 hc2 hf1 hf2 hGlt h0 hb1
          go_upto_region 13 with fail
          obtain ⟨W3, hW3⟩ : ∃ W3, W3 = w2.setCell ⟨G, q * 3 + 2, none⟩ (.int .i64 (r.safe : Int)) := ⟨_, rfl⟩
          have e1 : W3.cell? ⟨G, q * 3 + 1, none⟩ = some (.slice A0 r.b.length c0) := by rw [hW3, cell_off w2 G (q * 3 + 2) (q * 3 + 1) _ (by omega)]; exact d1
          have e2 : W3.cell? ⟨G, q * 3 + 2, none⟩ = some (.int .i64 (r.safe : Int)) := by rw [hW3]; exact World.cell?_setCell_same' _ _ _ (by rw [d2]; rfl)
          have y1 : W3.frozen? ⟨G, q * 3 + 1, none⟩ = false := by rw [hW3, World.frozen?_setCell]; exact z1
          have HK3 : Hid (Kept (fun k => k = G) w2 W3) := Lib.hid (by rw [hW3]; exact kF w2 G _ _)
          have HBs3 := Lib.hid (HBs2.out.kept HK3.out hAG)
          rw [← hW3]
          have HW3 := Lib.hid hW3
          have hbc : (r.safe : Int) ≤ (c0 : Int) := by omega
          have hb0 : (0 : Int) ≤ (r.safe : Int) := by omega
          have HS0 : Hid (∀ W, Kept (fun _ => False) W3 W → W.cell? ⟨G, q * 3 + 2, none⟩ = some (.int .i64 (r.safe : Int)) ∧ W.cell? ⟨G, q * 3 + 1, none⟩ = some (.slice A0 r.b.length c0) ∧ W.frozen? ⟨G, q * 3 + 1, none⟩ = false) := Lib.hid fun W hW => by
            have hlt3 : G < W3.heap.size := World.block_lt_of_cell? W3 ⟨G, q * 3 + 1, none⟩ e1
            exact ⟨hW.cell e2 (by simp), hW.cell e1 (by simp), by rw [← y1]; exact World.frozen?_of_block (hW.block G hlt3 (by simp))⟩
          clear hW3 d1 d2 z1 z2 hAG
          go_region_law (first
            | (go_simp; go_at_call 20; refine (copy_any _ A0 r.safe c0 (r.b.take r.safe) (by rw [List.length_take]; omega) (by omega) ⟨fun e => by have := HBs3.out.1 e; simp [this], fun ad e j u hu => (HBs3.out.kept ((Kept.refl (fun _ => False) W3).drew) (by simp)).2 ad e j u (by rw [List.map_take, List.getElem?_take] at hu; split at hu; exact hu; cases hu)⟩ HA0.out).mono ?_; rintro e w4 ⟨v4, rfl, hown, hk4⟩; rw [show (r.b.take r.safe).length = r.safe by rw [List.length_take]; omega] at hown; obtain ⟨A4, c4, rfl⟩ := own_slice hown; have HV4 := Lib.hid hown; have HK4 := Lib.hid (((Kept.refl (fun _ => False) W3).drew).trans' hk4); obtain ⟨hs4, hc4, hd4⟩ := HS0.out _ HK4.out; clear hown hk4))
          all_goals go_wp2
          all_goals
            have hE := both_end2 (s := r.safe) HW2.out.at_ HG.out (r.safe : Int) (by omega) (by rw [Ha.out]; exact HW3.out) HK4.out HV4.out hsm
            rw [Ha.out] at hE
            have hst := HF.out.step Hr.out Ha.out (r' := { r with b := r.b.take r.safe, val := .slice A4 r.safe c4, safe := r.safe }) ⟨rfl, by rw [← Hiv.out, ← HmE.out], by rw [← Hiv.out, ← HmE.out]⟩
            have hcs := cntR_succ rs q r Hr.out
            rw [if_neg hfull, ← Hiv.out] at hcs
            exact ⟨⟨q + 1, by omega, by go_num, by rw [hcs]; go_num, Lib.hid ⟨_, HW2.out.trans hE, hst⟩⟩, by simp [intOf]; omega⟩
    · obtain rfl : q = N := by omega
      obtain ⟨Av, cv, h0⟩ := g0
      go_wp2
      go_end0
      obtain ⟨rs', hw, hf⟩ := hI.out
      rw [HN.out] at hf
      exact ⟨rfl, rs', hw, hf⟩
end Go.Proofs.YthkncfdgfbnchaaDoor
end

/-! courantref16: Start. Package files: Start, exactly. -/
section
set_option linter.unusedVariables false
set_option linter.unusedSimpArgs false
namespace Go.Proofs.YthkncfdgfbnchaaDoor
open Go.RowKit

theorem RB.up {w : World} {R : Nat} {v : Value} {most fuse : Int} {dn : Bool} (h : RB w R v most fuse dn) : RB ((w.setCell ⟨R, 3, none⟩ (.bool false)).setCell ⟨R, 2, none⟩ (.int .i64 0)) R v most 0 false := (h.s3 false).s2 0
set_option maxHeartbeats 1000000 in
theorem rstart_up (w : World) (R : Nat) (v : Value) (rs : List RV) (most fuse : Int) (h : RefAt w R v rs most fuse false) :
    Calls Tryd.prog 59 #[.pointer (some ⟨R, 0, none⟩)] w fun e w' => e = .returned (.tuple #[]) ∧ RWent w w' R v rs v rs most 0 false := by
  have H := Lib.hid h
  have c3 := h.rb.c3
  have c2 := h.rb.c2
  have f3 := h.rb.fz 3
  have f2 := h.rb.fz 2
  clear h
  go_enter Tryd.func59, Tryd.ntmps59
  go_wp2
  go_end0
  exact ⟨rfl, H.out.fields H.out.rb.up ((kF w R 3 _).trans' (kF _ R 2 _)) H.out.most0 (by omega)⟩
set_option maxHeartbeats 1000000 in
theorem rstart_down (w : World) (R : Nat) (v : Value) (rs : List RV) (most fuse : Int) (h : RefAt w R v rs most fuse true) :
    Calls Tryd.prog 59 #[.pointer (some ⟨R, 0, none⟩)] w fun e w' => e = .returned (.tuple #[]) ∧ ∃ rs', RWent w w' R v rs v rs' most 0 false ∧ FallK 0 [] rs rs' rs.length := by
  have HC := Lib.hid (rcrash_ex [] w R v rs most fuse true none 0 0 h (fun j hj => absurd hj (Nat.not_lt_zero _)))
  have c3 := h.rb.c3
  clear h
  go_enter Tryd.func59, Tryd.ntmps59
  go_wp2_with (go_at_call 58; refine HC.out.mono ?_; rintro e w1 ⟨rfl, rs', hw, hf⟩; have HW := Lib.hid hw; have HF := Lib.hid hf; have g3 := hw.at_.rb.c3; have g2 := hw.at_.rb.c2; have f3 := hw.at_.rb.fz 3; have f2 := hw.at_.rb.fz 2; clear hw hf)
  go_end0
  exact ⟨rfl, rs', HW.out.trans (HW.out.at_.fields HW.out.at_.rb.up ((kF w1 R 3 _).trans' (kF _ R 2 _)) HW.out.at_.most0 (by omega)), HF.out⟩
set_option maxHeartbeats 1000000 in
theorem start_ex (w : World) (F M : Nat) (ps : List PF) (clock : Nat) (lim arm : Int) (h : FilesAt w F M ps clock lim arm true) (hn : ps.length ≤ 1000000) (hm : ∀ p ∈ ps, p.name.size ≤ 1000000) :
    Calls Tryd.prog 18 #[.pointer (some ⟨F, 0, none⟩)] w fun e w' => e = .returned (.tuple #[]) ∧ ∃ qs, Went w F M ps qs clock lim 0 false w' ∧ All2 (FallsX 0 [] ps (sortN ps)) ps qs := by
  have HC := Lib.hid (crash_ex [] w F M ps clock lim arm true none 0 0 h hn hm (Lib.hid fun j hj => absurd hj (Nat.not_lt_zero _)))
  have h3 := FB.c3 h.fb
  clear h hn hm
  go_enter Tryd.func18, Tryd.ntmps18
  go_wp2_with (first | (go_at_call 17; refine HC.out.mono ?_; rintro e w1 ⟨rfl, qs, hw, ha⟩; have HW := Lib.hid hw; have HA := Lib.hid ha; have f2 := FB.fz hw.at_.fb 2; have f3 := FB.fz hw.at_.fb 3; have c2 := FB.c2 hw.at_.fb; have c3 := FB.c3 hw.at_.fb; clear hw ha))
  go_end0
  refine ⟨rfl, qs, HW.out.trans ⟨HW.out.at_.own (lim' := lim) (arm' := 0) (dn' := false) ((kF w1 F 3 _).trans' (kF _ F 2 _)) (FB.s2 (FB.s3 (show FB w1 F M lim arm true from HW.out.at_.fb) false) 0) HW.out.at_.lim0 (by omega), ((kF w1 F 3 _).trans' (kF _ F 2 _)).ofF, fun k hk => .inl hk⟩, HA.out⟩
set_option maxHeartbeats 1000000 in
theorem start_up (w : World) (F M : Nat) (ps : List PF) (clock : Nat) (lim arm : Int) (h : FilesAt w F M ps clock lim arm false) :
    Calls Tryd.prog 18 #[.pointer (some ⟨F, 0, none⟩)] w fun e w' => e = .returned (.tuple #[]) ∧ Went w F M ps ps clock lim 0 false w' := by
  have H := Lib.hid h
  have h3 := FB.c3 h.fb
  have h2 := FB.c2 h.fb
  have f3 := FB.fz h.fb 3
  have f2 := FB.fz h.fb 2
  clear h
  go_enter Tryd.func18, Tryd.ntmps18
  go_wp2
  go_end0
  exact ⟨rfl, H.out.own (lim' := lim) (arm' := 0) (dn' := false) ((kF w F 3 _).trans' (kF _ F 2 _)) (FB.s2 (FB.s3 (show FB w F M lim arm false from H.out.fb) false) 0) H.out.lim0 (by omega), ((kF w F 3 _).trans' (kF _ F 2 _)).ofF, fun k hk => .inl hk⟩
end Go.Proofs.YthkncfdgfbnchaaDoor
end
