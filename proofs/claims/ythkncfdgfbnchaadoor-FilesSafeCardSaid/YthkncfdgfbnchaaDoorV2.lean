/-
  courantlaw16.FilesSafe, walked.
-/
import Derived.Test.YthkncfdgfbnchaaDoorV1
import Derived.Deep.DeepMust
set_option linter.unusedVariables false
set_option linter.unusedSimpArgs false
namespace Go.Proofs.YthkncfdgfbnchaaDoor
open Go.RowKit

/-- What is there behind two falls, read. -/
structure Got (xs : List UInt8) (s n : Nat) (b : List UInt8) : Prop where
  len : b.length = n
  le : s ≤ n
  ge : n ≤ xs.length
  eq : b = xs.take n
theorem Got.of {p q r : PF} (h : Fell p q) (k : Fell q r) : ∃ n, Got p.b p.safe n r.b := by
  obtain ⟨_, m, h1, h2, h3⟩ := h.two k
  exact ⟨m, by rw [h3]; simp; omega, h1, h2, h3⟩
theorem take_more {xs ys b : List UInt8} {s n : Nat} (h : Got xs s n b) : Got (xs ++ ys) s n b :=
  ⟨h.len, h.le, by have := h.ge; simp; omega, by rw [h.eq, List.take_append_of_le_length h.ge]⟩
set_option maxRecDepth 100000 in
set_option maxHeartbeats 4000000 in
theorem safe_whole (w : World) (A0 A1 A2 : Option Addr) (n0 c0 n1 c1 n2 c2 : Nat) (safe late : List UInt8) (hx : Bs w A0 safe) (hn : n0 = safe.length) (hA : A0 = none → c0 = 0) (hw : ∀ ad, A0 = some ad → safe = [] ∨ ad.block < w.heap.size)
    (hx1 : Bs w A1 late) (hn1 : n1 = late.length) (hA1 : A1 = none → c1 = 0) (hw1 : ∀ ad, A1 = some ad → late = [] ∨ ad.block < w.heap.size) (hc1 : n1 ≤ c1) (hks : ∀ j, j < n2 → ∃ ad z, A2 = some ad ∧ w.cell? (ad.add j) = some (.int .i64 z)) (hl0 : n0 ≤ 5000) (hl1 : n1 ≤ 5000) (hl2 : n2 ≤ 60) :
    Calls Tryd.prog 4 #[.slice A0 n0 c0, .slice A1 n1 c1, .slice A2 n2 c2, .bool false] w fun e w' => e = .returned (.bool true) ∧ Kept (fun _ => False) w w' := by
  have HN := Lib.hid (new_room w 1048576)
  have HX := Lib.hid hx
  have HX1 := Lib.hid hx1
  have Hn := Lib.hid hn
  have Hn1 := Lib.hid hn1
  have HA := Lib.hid hA
  have HA1 := Lib.hid hA1
  have Hw := Lib.hid hw
  have Hw1 := Lib.hid hw1
  have Hks := Lib.hid hks
  have g0 : ¬ (5000 : Int) < (n0 : Int) := by omega
  have g1 : ¬ (5000 : Int) < (n1 : Int) := by omega
  have g2 : ¬ (60 : Int) < (n2 : Int) := by omega
  clear hx hx1 hn hn1 hA hA1 hw hw1 hks
  go_enter Tryd.func4, Tryd.ntmps4
  go_wp2_with (first
    | (go_at_call 10; refine HN.out.mono ?_; rintro e w1 ⟨F, M, rfl, hr⟩; have HR := Lib.hid hr; clear hr)
    | (go_at_call 11; refine (awake_any _).mono ?_; rintro e w2 ⟨rfl, hk⟩; have HO := Lib.hid (show Own w w2 F M [] 0 1048576 0 false from (HR.out.stay hk).own'); clear hk)
    | (go_at_call 12; with_reducible refine (Own.appB2 HO5.out HX1.out Hn1.out HA1.out (by omega) (by have := Hn.out; have := Hn1.out; simp; omega) Hw1.out).mono ?_; rintro e w6 ⟨rfl, B2, v2, ho⟩; have HO6 := Lib.hid ho; clear ho)
    | (go_at_call 12; with_reducible refine (Own.appLate HO4.out HX1.out Hn1.out HA1.out (by have := Hn.out; simp [usedL]; omega) (by omega)).mono ?_; rintro e w5 ⟨rfl, v5, ho⟩; have HO5 := Lib.hid ho; clear ho)
    | (go_at_call 12; with_reducible refine (Own.appA HO.out HX.out Hn.out HA.out (by omega) Hw.out).mono ?_; rintro e w3 ⟨rfl, B, v, ho⟩; have HO3 := Lib.hid ho; clear ho)
    | (go_at_call 15; with_reducible refine (Own.syncA HO3.out).mono ?_; rintro e w4 ⟨rfl, ho⟩; have HO4 := Lib.hid ho; clear ho)
    | (go_at_call 17; refine (Own.fallen HO6.out (by simp) (nms rfl rfl) Hks.out).mono ?_; rintro e w10 ⟨rfl, qs, ho, hf⟩; obtain ⟨q, s, rfl, hf1, hf2⟩ := all2_two hf; have HF1 := Lib.hid hf1; have HF2 := Lib.hid hf2; have HO10 := Lib.hid ho; clear ho hf hf1 hf2)
    | (go_at_call 18; refine (Own.started HO10.out (by simp) (nms HF1.out.name HF2.out.name)).mono ?_; rintro e w11 ⟨rfl, qs2, ho, hf⟩; obtain ⟨q2, s2, rfl, hf1, hf2⟩ := all2_two hf; obtain ⟨k1, hg1⟩ := Got.of HF1.out hf1; obtain ⟨k2, hg2⟩ := Got.of HF2.out hf2; have HG1 := Lib.hid (show Got (safe ++ late) safe.length k1 q2.b from hg1); have HG2 := Lib.hid (show Got late 0 k2 s2.b from hg2); have HN1 := Lib.hid (show q2.name = nmA from hf1.name.trans HF1.out.name); have HN2 := Lib.hid (show s2.name = nmB from hf2.name.trans HF2.out.name); have HO11 := Lib.hid ho; clear ho hf hf1 hf2 hg1 hg2)
    | (go_at_call 19; refine (Own.readAt (l1 := [q2]) (l2 := []) HO12.out HN2.out rfl).mono ?_; rintro e w13 ⟨A8, c8, rfl, hb8, ho, hk⟩; rw [HG2.out.len]; have HB8 := Lib.hid hb8; have HK13 := Lib.hid hk; have HO13 := Lib.hid ho; clear ho hb8 hk)
    | (go_at_call 19; refine (Own.readAt (l1 := []) (l2 := [s2]) HO11.out HN1.out rfl).mono ?_; rintro e w12 ⟨A9, c9, rfl, hb9, ho, hk⟩; rw [HG1.out.len]; have HB9 := Lib.hid hb9; have HO12 := Lib.hid ho; clear ho hb9 hk)
    | (go_at_call 20; refine (copy_any _ A0 n0 c0 safe Hn.out (by omega) (Own.bs HO13.out HX.out) HA.out).mono ?_; rintro e w14 ⟨v14, rfl, hown, hk⟩; have HK14 := Lib.hid hk; have HV14 := Lib.hid hown; clear hk hown)
    | (at_builtin; have hV := HV15.out; clear hV; go_must (refine wpList_append_bs rfl _ _ rfl _ v15 _ _ rfl HV15.out A1 n1 c1 late rfl (Own.bs (HO13.out.stay HK15.out) HX1.out) Hn1.out HA1.out (by have := Hn.out; omega) HK15.out.size ?_; intro v16 w16 hown hgrow; have HK16 := Lib.hid (HK15.out.grown hgrow (fun k e hk => by have := own_ge HV15.out k e; omega)); rw [← List.map_append, ← List.map_append] at hown; obtain ⟨N14, hN⟩ : ∃ N, N = safe.length + n1 + n1 := ⟨_, rfl⟩; rw [← hN] at hown; obtain ⟨A14, c14, rfl, -, hb14, -⟩ := Bs.of_own hown; have HB14 := Lib.hid hb14; have h0 : N14 = n0 + n1 + n1 := (by have := Hn.out; omega); have h1 := (own_cap hown).1; have h2 : k1 ≤ N14 := (by have h3 := Hn1.out; have h4 := Hn.out; have h2 := HG1.out.ge; simp only [List.length_append] at h2; omega); have i1 : ¬ (N14 : Int) < (k1 : Int) := (by omega); have i2 : ¬ (n1 : Int) < (k2 : Int) := (by have := HG2.out.ge; have := Hn1.out; omega); have i3 : (n0 : Int) ≤ (k1 : Int) := (by have := HG1.out.le; have := Hn.out; omega); have i4 : (k1 : Int) ≤ (N14 : Int) := (by omega); have i5 : (k2 : Int) ≤ (n1 : Int) := (by omega); have i6 : (k1 : Int) ≤ (c14 : Int) := (by omega); have i7 : (k2 : Int) ≤ (c1 : Int) := (by omega); have HO16 := Lib.hid (HO13.out.stay HK16.out); clear hown hgrow hb14 hN h0 h1 h2))
    | (at_builtin; refine wpList_append_bs rfl _ _ rfl _ v14 _ _ rfl HV14.out A1 n1 c1 late rfl (Own.bs (HO13.out.stay HK14.out) HX1.out) Hn1.out HA1.out (by have := Hn.out; omega) HK14.out.size ?_; intro v15 w15 hown hgrow; have HV15 := Lib.hid hown; have HK15 := Lib.hid (HK14.out.grown hgrow (fun k e hk => by have := own_ge HV14.out k e; omega)); clear hown hgrow)
    | (go_at_call 21; rw [show (min (k1 : Int) (N14 : Int)).toNat = k1 by omega]; refine (bytes_take _ A9 A14 k1 c9 c14 q2.b (safe ++ late ++ late) (HB9.out.kept (HK13.out.trans' HK16.out) (by simp)) HG1.out.len.symm (take_more HG1.out).eq HB14.out).mono ?_; rintro e w17 ⟨rfl, rfl⟩)
    | (go_at_call 21; rw [show (min (k2 : Int) (n1 : Int)).toNat = k2 by omega]; refine (bytes_take _ A8 A1 k2 c8 c1 s2.b late (HB8.out.kept HK16.out (by simp)) HG2.out.len.symm HG2.out.eq (Own.bs HO16.out HX1.out)).mono ?_; rintro e w17 ⟨rfl, rfl⟩))
  go_ret
  exact ⟨ret_bool (by simp), HO16.out.kept⟩
set_option maxRecDepth 100000 in
set_option maxHeartbeats 4000000 in
theorem safe_torn (w : World) (A0 A1 A2 : Option Addr) (n0 c0 n1 c1 n2 c2 : Nat) (safe late : List UInt8) (hx : Bs w A0 safe) (hn : n0 = safe.length) (hA : A0 = none → c0 = 0) (hw : ∀ ad, A0 = some ad → safe = [] ∨ ad.block < w.heap.size)
    (hx1 : Bs w A1 late) (hn1 : n1 = late.length) (hA1 : A1 = none → c1 = 0) (hw1 : ∀ ad, A1 = some ad → late = [] ∨ ad.block < w.heap.size) (hc1 : n1 ≤ c1) (hks : ∀ j, j < n2 → ∃ ad z, A2 = some ad ∧ w.cell? (ad.add j) = some (.int .i64 z)) (hl0 : n0 ≤ 5000) (hl1 : n1 ≤ 5000) (hl2 : n2 ≤ 60) :
    Calls Tryd.prog 4 #[.slice A0 n0 c0, .slice A1 n1 c1, .slice A2 n2 c2, .bool true] w fun e w' => e = .returned (.bool true) ∧ Kept (fun _ => False) w w' := by
  have HN := Lib.hid (new_room w 1048576)
  have HX := Lib.hid hx
  have HX1 := Lib.hid hx1
  have Hn := Lib.hid hn
  have Hn1 := Lib.hid hn1
  have HA := Lib.hid hA
  have HA1 := Lib.hid hA1
  have Hw := Lib.hid hw
  have Hw1 := Lib.hid hw1
  have Hks := Lib.hid hks
  have g0 : ¬ (5000 : Int) < (n0 : Int) := by omega
  have g1 : ¬ (5000 : Int) < (n1 : Int) := by omega
  have g2 : ¬ (60 : Int) < (n2 : Int) := by omega
  clear hx hx1 hn hn1 hA hA1 hw hw1 hks
  go_enter Tryd.func4, Tryd.ntmps4
  go_wp2_with (first
    | (go_at_call 10; refine HN.out.mono ?_; rintro e w1 ⟨F, M, rfl, hr⟩; have HR := Lib.hid hr; clear hr)
    | (go_at_call 11; refine (awake_any _).mono ?_; rintro e w2 ⟨rfl, hk⟩; have HO := Lib.hid (show Own w w2 F M [] 0 1048576 0 false from (HR.out.stay hk).own'); clear hk)
    | (go_at_call 12; with_reducible refine (Own.appDown HO8.out ⟨#[97]⟩ (.slice A1 n1 c1)).mono ?_; rintro e w9 ⟨rfl, rfl⟩)
    | (go_at_call 12; with_reducible refine (Own.appLate HO7.out HX1.out Hn1.out HA1.out (by have := Hn.out; have := Hn1.out; simp [usedL]; omega) (by omega)).mono ?_; rintro e w8 ⟨rfl, v8, ho⟩; have HO8 := Lib.hid ho; clear ho)
    | (go_at_call 12; with_reducible refine (Own.appB2 HO5.out HX1.out Hn1.out HA1.out (by omega) (by have := Hn.out; have := Hn1.out; simp; omega) Hw1.out).mono ?_; rintro e w6 ⟨rfl, B2, v2, ho⟩; have HO6 := Lib.hid ho; clear ho)
    | (go_at_call 12; with_reducible refine (Own.appLate HO4.out HX1.out Hn1.out HA1.out (by have := Hn.out; simp [usedL]; omega) (by omega)).mono ?_; rintro e w5 ⟨rfl, v5, ho⟩; have HO5 := Lib.hid ho; clear ho)
    | (go_at_call 12; with_reducible refine (Own.appA HO.out HX.out Hn.out HA.out (by omega) Hw.out).mono ?_; rintro e w3 ⟨rfl, B, v, ho⟩; have HO3 := Lib.hid ho; clear ho)
    | (go_at_call 15; with_reducible refine (Own.syncA HO3.out).mono ?_; rintro e w4 ⟨rfl, ho⟩; have HO4 := Lib.hid ho; clear ho)
    | (go_at_call 16; refine (Own.armed HO6.out (n := 1) (by decide) (by decide)).mono ?_; rintro e w7 ⟨rfl, ho⟩; have HO7 := Lib.hid ho; clear ho)
    | (go_at_call 17; refine (Own.fallen HO8.out (by simp) (nms rfl rfl) Hks.out).mono ?_; rintro e w10 ⟨rfl, qs, ho, hf⟩; obtain ⟨q, s, rfl, hf1, hf2⟩ := all2_two hf; have HF1 := Lib.hid hf1; have HF2 := Lib.hid hf2; have HO10 := Lib.hid ho; clear ho hf hf1 hf2)
    | (go_at_call 18; refine (Own.started HO10.out (by simp) (nms HF1.out.name HF2.out.name)).mono ?_; rintro e w11 ⟨rfl, qs2, ho, hf⟩; obtain ⟨q2, s2, rfl, hf1, hf2⟩ := all2_two hf; obtain ⟨k1, hg1⟩ := Got.of HF1.out hf1; obtain ⟨k2, hg2⟩ := Got.of HF2.out hf2; have HG1 := Lib.hid (show Got (safe ++ late ++ late) safe.length k1 q2.b from hg1); have HG2 := Lib.hid (show Got late 0 k2 s2.b from hg2); have HN1 := Lib.hid (show q2.name = nmA from hf1.name.trans HF1.out.name); have HN2 := Lib.hid (show s2.name = nmB from hf2.name.trans HF2.out.name); have HO11 := Lib.hid ho; clear ho hf hf1 hf2 hg1 hg2)
    | (go_at_call 19; refine (Own.readAt (l1 := [q2]) (l2 := []) HO12.out HN2.out rfl).mono ?_; rintro e w13 ⟨A8, c8, rfl, hb8, ho, hk⟩; rw [HG2.out.len]; have HB8 := Lib.hid hb8; have HK13 := Lib.hid hk; have HO13 := Lib.hid ho; clear ho hb8 hk)
    | (go_at_call 19; refine (Own.readAt (l1 := []) (l2 := [s2]) HO11.out HN1.out rfl).mono ?_; rintro e w12 ⟨A9, c9, rfl, hb9, ho, hk⟩; rw [HG1.out.len]; have HB9 := Lib.hid hb9; have HO12 := Lib.hid ho; clear ho hb9 hk)
    | (go_at_call 20; refine (copy_any _ A0 n0 c0 safe Hn.out (by omega) (Own.bs HO13.out HX.out) HA.out).mono ?_; rintro e w14 ⟨v14, rfl, hown, hk⟩; have HK14 := Lib.hid hk; have HV14 := Lib.hid hown; clear hk hown)
    | (at_builtin; have hV := HV15.out; clear hV; go_must (refine wpList_append_bs rfl _ _ rfl _ v15 _ _ rfl HV15.out A1 n1 c1 late rfl (Own.bs (HO13.out.stay HK15.out) HX1.out) Hn1.out HA1.out (by have := Hn.out; omega) HK15.out.size ?_; intro v16 w16 hown hgrow; have HK16 := Lib.hid (HK15.out.grown hgrow (fun k e hk => by have := own_ge HV15.out k e; omega)); rw [← List.map_append, ← List.map_append] at hown; obtain ⟨N14, hN⟩ : ∃ N, N = safe.length + n1 + n1 := ⟨_, rfl⟩; rw [← hN] at hown; obtain ⟨A14, c14, rfl, -, hb14, -⟩ := Bs.of_own hown; have HB14 := Lib.hid hb14; have h0 : N14 = n0 + n1 + n1 := (by have := Hn.out; omega); have h1 := (own_cap hown).1; have h2 : k1 ≤ N14 := (by have h3 := Hn1.out; have h4 := Hn.out; have h2 := HG1.out.ge; simp only [List.length_append] at h2; omega); have i1 : ¬ (N14 : Int) < (k1 : Int) := (by omega); have i2 : ¬ (n1 : Int) < (k2 : Int) := (by have := HG2.out.ge; have := Hn1.out; omega); have i3 : (n0 : Int) ≤ (k1 : Int) := (by have := HG1.out.le; have := Hn.out; omega); have i4 : (k1 : Int) ≤ (N14 : Int) := (by omega); have i5 : (k2 : Int) ≤ (n1 : Int) := (by omega); have i6 : (k1 : Int) ≤ (c14 : Int) := (by omega); have i7 : (k2 : Int) ≤ (c1 : Int) := (by omega); have HO16 := Lib.hid (HO13.out.stay HK16.out); clear hown hgrow hb14 hN h0 h1 h2))
    | (at_builtin; refine wpList_append_bs rfl _ _ rfl _ v14 _ _ rfl HV14.out A1 n1 c1 late rfl (Own.bs (HO13.out.stay HK14.out) HX1.out) Hn1.out HA1.out (by have := Hn.out; omega) HK14.out.size ?_; intro v15 w15 hown hgrow; have HV15 := Lib.hid hown; have HK15 := Lib.hid (HK14.out.grown hgrow (fun k e hk => by have := own_ge HV14.out k e; omega)); clear hown hgrow)
    | (go_at_call 21; rw [show (min (k1 : Int) (N14 : Int)).toNat = k1 by omega]; refine (bytes_take _ A9 A14 k1 c9 c14 q2.b (safe ++ late ++ late) (HB9.out.kept (HK13.out.trans' HK16.out) (by simp)) HG1.out.len.symm HG1.out.eq HB14.out).mono ?_; rintro e w17 ⟨rfl, rfl⟩)
    | (go_at_call 21; rw [show (min (k2 : Int) (n1 : Int)).toNat = k2 by omega]; refine (bytes_take _ A8 A1 k2 c8 c1 s2.b late (HB8.out.kept HK16.out (by simp)) HG2.out.len.symm HG2.out.eq (Own.bs HO16.out HX1.out)).mono ?_; rintro e w17 ⟨rfl, rfl⟩))
  go_ret
  exact ⟨ret_bool (by simp), HO16.out.kept⟩
end Go.Proofs.YthkncfdgfbnchaaDoor
