import Derived.Test.YtcifhfdjigfeiaaGreatDoorZi
/-! compact.Put, where there is room. -/
section
set_option linter.unusedVariables false
set_option linter.unusedSimpArgs false
namespace Go.Proofs.YtcifhfdjigfeiaaGreatDoor
open Go.RowKit

set_option maxHeartbeats 1000000 in
theorem syncK (W : World) (F M : Nat) (ps : List PF) (clock : Nat) (lim : Int) (nk : ByteArray) (d : List UInt8) (h : FilesAt W F M ps clock lim 0 false) (ho : OneK ps nk d true) :
    Calls Tryz.prog 45 #[.pointer (some ⟨F, 0, none⟩), .string nk] W fun e w' => e = .returned (.int .i64 0) ∧ ∃ ps', Went W F M ps ps' clock lim 0 false w' ∧ OneK ps' nk d true := by
  rcases ho with ⟨_, _, h0⟩ | ⟨p, rfl, hp, rfl, _⟩
  · cases h0
  · have := sync_ok W F M lim 0 [] [] p clock (by decide) h
    rw [hp] at this
    refine this.mono ?_
    rintro e w' ⟨rfl, hw⟩
    exact ⟨rfl, _, hw, .inr ⟨_, rfl, rfl, rfl, rfl⟩⟩
set_option maxRecDepth 100000 in
set_option maxHeartbeats 8000000 in
theorem cput_ok (Z : Nat → Prop) (w : World) (T F M : Nat) (nm : ByteArray) (ps : List PF) (clock : Nat) (lim : Int) (v : Value) (qs : List PV) (next size : Nat) (d : List UInt8) (made : Bool) (B : Option Addr) (m c2 : Nat) (ms : List PV)
    (h : SAt Z w T F M nm ps clock lim v qs next size) (one : OneK ps (nm ++ dotK) d made) (hm : m = ms.length) (hms : PsL Z w B ms) (hL : ∀ k, w.heap.size ≤ k → Z k) (hq : qs.length + m ≤ 300000) (hb1 : ∀ q ∈ qs, q.b.length ≤ 1000000000) (hb2 : ∀ q ∈ ms, q.b.length ≤ 1000000000)
    (hby : (bytesP ms).length ≤ 32768) (hne : next ≤ 1000000000) (hsz : size ≤ 1000000000) (hfit : ((bytesP ms).length : Int) + 16 + (d.length : Int) ≤ lim) (hnm : nm.size ≤ 1000000) (hfu : fullB (nm ++ dotK) = true) :
    Calls Tryz.prog 21 #[.pointer (some ⟨T, 0, none⟩), .slice B m c2] w fun e w' => e = .returned (.int .i64 0) ∧ ∃ ps' clock' v' qs', SAt Z w' T F M nm ps' clock' lim v' qs' (next + 1) (size + ((bytesP ms).length + 16)) ∧ OneK ps' (nm ++ dotK) (d ++ frameB next (bytesP ms)) true ∧ qs'.map PV.core = putC (qs.map PV.core) (ms.map PV.core) ∧ Kept (fun k => Z k) w w' := by
  have H := Lib.hid h
  have HOne := Lib.hid one
  have HM := Lib.hid hm
  have HMs := Lib.hid hms
  have HL := Lib.hid hL
  have HB1 := Lib.hid hb1
  have HB2 := Lib.hid hb2
  have Hfit := Lib.hid hfit
  have hs1 : nm.size ≤ 9223372036854775805 := by omega
  have hs2 : nm.size + 2 ≤ 9223372036854775807 := by omega
  have hs3 : ¬ 9223372036854775807 < nm.size + 2 := by omega
  have HR := Lib.hid (cready_ok w T F M nm v next size lim 0 h.sb h.f.fb)
  have HKB : Hid (∀ W, Kept (fun k => Z k) w W → Calls Tryz.prog 43 #[.slice B m c2] W (ClonePost W (bytesP ms))) := Lib.hid fun W hk => kBytes_any W B m c2 ms hm (by omega) (hms W hk)
  have c3 := h.sb.c3
  obtain ⟨bn, hbn⟩ : ∃ bn, bn = (bytesP ms).length := ⟨_, rfl⟩
  have Hbn := Lib.hid hbn
  have hbn9 : bn ≤ 32768 := by omega
  have HKT : Hid (∀ W, Kept (fun _ => False) w W → SB W T F nm v next size false) := Lib.hid fun W hk => h.sb.kept' hk
  clear one hm hms hL hb1 hb2 hby hfit hbn
  obtain ⟨Av, cv, rfl, hAv, -, -⟩ := h.at_
  have HAv := Lib.hid hAv
  clear h hAv
  go_enter Tryz.func21, Tryz.ntmps21
  go_upto_region 4 with (go_at_call 37; refine HR.out.mono ?_; rintro e w ⟨rfl, rfl⟩)
  go_region_held3 (fun W => W.cell? ⟨T, 3, none⟩ = some (.int .u64 (next : Nat))) (first | assumption | exact c3 | exact HK1c.out | exact HK2c.out | simp [*]) (first
    | (go_at_call 42; refine (make_any w1 next A1 (bytesP ms).length c1 (bytesP ms) (by omega) rfl (by rw [← Hbn.out]; exact hbn9) HBs1.out HA1.out).mono ?_; rintro e w2 ⟨v2, rfl, ho, hk⟩; have HO2 := Lib.hid ho; have HK2 := Lib.hid (HK1.out.trans' hk); have HK2c := Lib.hid (HKT.out _ HK2.out).c3; clear ho hk)
    | (go_at_call 43; refine (HKB.out _ (((Kept.refl (fun _ => False) _).drew).mono fun _ _ h => h.elim)).mono ?_; rintro e w1 hP; obtain ⟨A1, c1, rfl, ha, hb, hc⟩ := ClonePost.acc hP; have HBs1 := Lib.hid hb; have HA1 := Lib.hid hc; have HK1 := Lib.hid ((Kept.refl (fun _ => False) _).drew.trans' ha.2); have HK1c := Lib.hid (HKT.out _ HK1.out).c3; clear hP ha hb hc))
  all_goals
    obtain ⟨A2, c3', rfl⟩ := own_slice HO2.out
    obtain ⟨n2, hn2⟩ : ∃ n2, n2 = (frameB next (bytesP ms)).length := ⟨_, rfl⟩
    rw [← hn2]
    have Hn2 := Lib.hid hn2
    have hn29 : n2 = bn + 16 := by rw [hn2, frameB_len, Hbn.out]
    have Hn29 := Lib.hid hn29
    have hn2b : (n2 : Int) ≤ 40000 := by omega
    obtain ⟨Ax, cx, hAx, -, hbx, hAn, hbo⟩ := Bs.of_own HO2.out
    rw [← hn2] at hAx
    simp only [Value.slice.injEq] at hAx
    obtain ⟨rfl, -, rfl⟩ := hAx
    have HBx := Lib.hid hbx
    have HAn := Lib.hid hAn
    have HO2' := Lib.hid (own_ge HO2.out)
    have HSt2 := Lib.hid (H.out.stay (HK2.out.trans' (Kept.refl (fun _ => False) w2).drew))
    have HBo : Hid (∀ ad, A2 = some ad → frameB next (bytesP ms) = [] ∨ ad.block ≠ M) := Lib.hid fun ad e => .inr fun e2 => by
      have h1 := HO2'.out ad.block (by rw [e]; rfl)
      have h2 := H.out.f.lt M (by simp [foot])
      have h3 := HK1.out.size
      omega
    have d0 := (HKT.out _ HK2.out).c0
    have d1 := (HKT.out _ HK2.out).c1
    have HL2 : Hid (∀ k, w2.drew.heap.size ≤ k → Z k) := Lib.hid fun k hk => HL.out k (Nat.le_trans HK2.out.size hk)
    clear hbo hn2 hn29 hbx hAn c3
    go_upto_region 7 with fail
  all_goals go_region_held3 (fun W => W.cell? ⟨T, 0, none⟩ = some (.pointer (some ⟨F, 0, none⟩)) ∧ W.cell? ⟨T, 1, none⟩ = some (.string nm)) (first | assumption | exact ⟨d0, d1⟩ | exact ⟨HSt3.out.sb.c0, HSt3.out.sb.c1⟩ | exact ⟨HSt4.out.sb.c0, HSt4.out.sb.c1⟩ | simp [*]) (first
    | (go_at_call 39; refine (met_any w3 T F nm _ next size false 0 HSt3.out.sb).mono ?_; rintro e w4 ⟨rfl, hsb, hk⟩; have HSt4 := Lib.hid (HSt3.out.turn (by simpa using hsb) hk); have HKT4 := Lib.hid hk; clear hsb hk)
    | (go_at_call 44; refine (appendK w2.drew F M ps clock lim (nm ++ dotK) d made A2 n2 c3' (frameB next (bytesP ms)) HSt2.out.f HOne.out (by rw [size_dotK]; omega) hfu (HBx.out.kept (Kept.refl (fun _ => False) w2).drew (by simp)) Hn2.out HAn.out (by have := Hfit.out; rw [← Hn2.out, Hn29.out]; have := Hbn.out; omega) HBo.out).mono ?_; rintro e w3 ⟨rfl, ps3, clk3, hw3, one3⟩; have HW3 := Lib.hid hw3; have HOne3 := Lib.hid one3; have HSt3 := Lib.hid (HSt2.out.went hw3 HL2.out); clear hw3 one3))
  all_goals
    have HK24 : Hid (Kept (fun k => Z k) w w4) := Lib.hid (by
      have k1 : Kept (fun k => Z k) w w2.drew := (HK2.out.mono fun _ _ h => h.elim).drew
      have k2 : Kept (fun k => Z k) w2.drew w3 := HW3.out.kept.mono fun k _ hm => H.out.lf k hm
      have k3 : Kept (fun k => Z k) w3 w4 := HKT4.out.mono fun k _ e => by subst e; exact H.out.lT
      exact (k1.trans' k2).trans' k3)
    have HSt5 := Lib.hid (HSt4.out.stay (Kept.refl (fun _ => False) w4).drew)
    have d0 := HSt4.out.sb.c0
    have d1 := HSt4.out.sb.c1
    have HL4 : Hid (∀ k, w4.drew.heap.size ≤ k → Z k) := Lib.hid fun k hk => HL.out k (Nat.le_trans HK24.out.size hk)
    clear d0 d1
    have d0 := HSt4.out.sb.c0
    have d1 := HSt4.out.sb.c1
    go_upto_region 10 with fail
  all_goals go_region_held3 (fun W => W.cell? ⟨T, 0, none⟩ = some (.pointer (some ⟨F, 0, none⟩)) ∧ W.cell? ⟨T, 1, none⟩ = some (.string nm)) (first | assumption | exact ⟨d0, d1⟩ | exact ⟨HSt6.out.sb.c0, HSt6.out.sb.c1⟩ | exact ⟨HSt7.out.sb.c0, HSt7.out.sb.c1⟩ | simp [*]) (first
    | (go_at_call 39; refine (met_any w6 T F nm _ next size false 0 HSt6.out.sb).mono ?_; rintro e w7 ⟨rfl, hsb, hk⟩; have HSt7 := Lib.hid (HSt6.out.turn (by simpa using hsb) hk); have HKT7 := Lib.hid hk; clear hsb hk)
    | (go_at_call 45; refine (syncK w4.drew F M ps3 clk3 lim (nm ++ dotK) (d ++ frameB next (bytesP ms)) HSt5.out.f HOne3.out).mono ?_; rintro e w6 ⟨rfl, ps6, hw6, one6⟩; have HW6 := Lib.hid hw6; have HOne6 := Lib.hid one6; have HSt6 := Lib.hid (HSt5.out.went hw6 HL4.out); clear hw6 one6))
  all_goals
    have HK27 : Hid (Kept (fun k => Z k) w w7) := Lib.hid (by
      have k2 : Kept (fun k => Z k) w4.drew w6 := HW6.out.kept.mono fun k _ hm => HSt4.out.lf k hm
      have k3 : Kept (fun k => Z k) w6 w7 := HKT7.out.mono fun k _ e => by subst e; exact H.out.lT
      exact (HK24.out.drew.trans' k2).trans' k3)
    obtain ⟨Av', cv', hav, -, -, hat7⟩ := HSt7.out.at_
    simp only [Value.slice.injEq] at hav
    obtain ⟨rfl, -, rfl⟩ := hav
    have HPut := Lib.hid (kPut_any w7 Av B qs.length cv m c2 qs ms rfl HM.out (by omega) HB1.out HB2.out hat7 (HMs.out w7 HK27.out))
    have t2 := HSt7.out.sb.c2
    clear hat7 d0 d1
    go_upto_region 14 with (go_at_call 33; refine HPut.out.mono ?_; rintro e w8 ⟨v8, q8, rfl, hp, hc⟩; have HP8 := Lib.hid hp; have HC8 := Lib.hid hc; have t8 := (HSt7.out.sb.kept' hp.kept).c2; have t8f := (HSt7.out.sb.kept' hp.kept).fz 2; obtain ⟨A8, c8, rfl⟩ := own_slice hp.row; clear hp hc)
    obtain ⟨hst9, hk9⟩ := HSt7.out.pairs HP8.out
    obtain ⟨W9, hW9⟩ : ∃ W9, W9 = w8.setCell ⟨T, 2, none⟩ (.slice A8 q8.length c8) := ⟨_, rfl⟩
    rw [← hW9] at hst9 hk9 ⊢
    have HSt9 := Lib.hid hst9
    have HK9 := Lib.hid hk9
    have u3 := hst9.sb.c3
    have u3f := hst9.sb.fz 3
    have hne9 : (next : Int) ≤ 1000000000 := by omega
    clear hW9 hst9 hk9 t8 t8f t2
    go_upto_region 15 with fail
    obtain ⟨W10, hW10⟩ : ∃ W10, W10 = W9.setCell ⟨T, 3, none⟩ (.int .u64 ((next : Int) + 1)) := ⟨_, rfl⟩
    have hk10 : Kept (fun k => k = T) W9 W10 := by rw [hW10]; exact (Kept.refl (fun k => k = T) W9).setCell (fun _ => rfl) _
    have hst10 := HSt9.out.turn (by rw [hW10]; exact HSt9.out.sb.s3 (next + 1)) hk10
    rw [← hW10]
    have HSt10 := Lib.hid hst10
    have HK10 := Lib.hid hk10
    have u4 := hst10.sb.c4
    have u4f := hst10.sb.fz 4
    have hsz9 : (size : Int) ≤ 1000000000 := by omega
    clear hW10 hk10 hst10 u3 u3f
    go_wp2
    go_ret
    have hk11 : Kept (fun k => k = T) W10 (W10.setCell ⟨T, 4, none⟩ (.int .i64 ((size : Int) + (n2 : Int)))) := (Kept.refl (fun k => k = T) W10).setCell (fun _ => rfl) _
    have hn2 := Hn29.out
    have hbn := Hbn.out
    have hst11 := HSt10.out.turn (size' := size + n2) (by have := HSt10.out.sb.s4 (size + n2); rw [show ((size + n2 : Nat) : Int) = (size : Int) + (n2 : Int) by omega] at this; exact this) hk11
    rw [hn2, hbn] at hst11
    have hT : ∀ {a b : World}, Kept (fun k => k = T) a b → Kept (fun k => Z k) a b := fun h => h.mono fun k _ e => by subst e; exact H.out.lT
    refine ⟨rfl, ps6, clk3, .slice A8 q8.length c8, q8, ?_, HOne6.out, HC8.out, ((HK27.out.trans' (hT HK9.out)).trans' (hT HK10.out)).trans' (hT hk11)⟩
    rw [hn2, hbn]
    exact hst11
end Go.Proofs.YtcifhfdjigfeiaaGreatDoor
end

/-! compact.All; courantlaw23.awake. -/
section
set_option linter.unusedVariables false
set_option linter.unusedSimpArgs false
namespace Go.Proofs.YtcifhfdjigfeiaaGreatDoor
open Go.RowKit

set_option maxRecDepth 100000 in
set_option maxHeartbeats 4000000 in
theorem call_any (Z : Nat → Prop) (w : World) (T F M : Nat) (nm : ByteArray) (ps : List PF) (clock : Nat) (lim : Int) (v : Value) (qs : List PV) (next size : Nat) (h : SAt Z w T F M nm ps clock lim v qs next size) (hq : qs.length ≤ 300000) (hb : ∀ q ∈ qs, q.b.length ≤ 1000000000) :
    Calls Tryz.prog 12 #[.pointer (some ⟨T, 0, none⟩)] w fun e w' => ∃ A' c' q', e = .returned (.slice A' q'.length c') ∧ (A' = none → c' = 0) ∧ PsAt w' A' q' ∧ q'.map PV.core = putC (qs.map PV.core) [] ∧ Kept (fun _ => False) w w' := by
  obtain ⟨Av, cv, rfl, hA, -, hat⟩ := h.at_
  have HC := Lib.hid (cloneP_any w Av qs.length cv qs rfl (by omega) hat hA)
  have H := Lib.hid h
  have Hb := Lib.hid hb
  have c2 := h.sb.c2
  have Hat := Lib.hid hat
  clear h hA hb hat
  go_enter Tryz.func12, Tryz.ntmps12
  go_wp2_with (first
    | (go_at_call 34; refine HC.out.mono ?_; rintro e w1 ⟨v1, rfl, ho, hk⟩; obtain ⟨A1, c1, hv1, hA1, -, -, hat1, -⟩ := row_form ho (fun q hq => (Hat.out.kept hk |> fun h9 => by obtain ⟨j, hj⟩ := List.getElem?_of_mem hq; obtain ⟨_, _, _, h3⟩ := h9 j q hj; exact h3)); subst hv1; have HK1 := Lib.hid hk; have HP1 := Lib.hid (kPut_any w1 A1 none qs.length c1 0 0 qs [] rfl rfl (by omega) Hb.out (fun p hp => by simp at hp) hat1 (PsAt.nil _ _)); clear ho hk hA1 hat1)
    | (go_at_call 33; refine HP1.out.mono ?_; rintro e w2 ⟨v2, q2, rfl, hp, hc⟩; obtain ⟨A2, c2', rfl, hA2, -, hat2⟩ := hp.at_; have HAt2 := Lib.hid hat2; have HA2 := Lib.hid hA2; have HC2 := Lib.hid hc; have HK2 := Lib.hid hp.kept; clear hp hc hA2 hat2))
  go_ret
  exact ⟨A2, c2', q2, rfl, HA2.out, HAt2.out, HC2.out, HK1.out.trans' HK2.out⟩
end Go.Proofs.YtcifhfdjigfeiaaGreatDoor
end
