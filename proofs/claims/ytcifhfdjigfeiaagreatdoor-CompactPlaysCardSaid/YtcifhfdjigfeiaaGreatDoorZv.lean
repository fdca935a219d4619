import Derived.Test.YtcifhfdjigfeiaaGreatDoorZu
/-! compact.Put, whatever hits the files, and however little room there is. -/
section
set_option linter.unusedVariables false
set_option linter.unusedSimpArgs false
namespace Go.Proofs.YtcifhfdjigfeiaaGreatDoor
open Go.RowKit

theorem put_put (d : Disk) (s : ByteArray) (x y : Option FV) : (d.put s x).put s y = d.put s y := by
  funext t
  unfold Disk.put
  by_cases h : t = s
  · rw [if_pos h, if_pos h]
  · rw [if_neg h, if_neg h, if_neg h]
/-- What Append answers, and leaves. -/
def AppR (w : World) (F M : Nat) (ps : List PF) (lim arm : Int) (s : ByteArray) (xs : List UInt8) (er : Int) (w' : World) : Prop :=
  (er = 14 ∧ lim < (xs.length : Int) + (usedL ps : Int) ∧ Kept (fun _ => False) w w') ∨
  (∃ ps' c', (er = 13 ∧ arm = 1 ∧ Went w F M ps ps' c' lim (decA arm) true w' ∨ er = 0 ∧ arm ≠ 1 ∧ Went w F M ps ps' c' lim (decA arm) false w') ∧ lk ps' = (lk ps).put s (some ((oldB (lk ps s)).1 ++ xs, (oldB (lk ps s)).2)))
theorem appR_any {w : World} {F M : Nat} {ps : List PF} {clock : Nat} {lim arm : Int} (s : ByteArray) (A : Option Addr) (n c : Nat) (xs : List UInt8) (h : FilesAt w F M ps clock lim arm false) (hs : s.size ≤ 140737488355328) (hf : fullB s = true) (hu : usedL ps ≤ 4194304) (hx : Bs w A xs) (hn : n = xs.length) (hn9 : n ≤ 1000000000) (hA : A = none → c = 0) (hM : ∀ ad, A = some ad → xs = [] ∨ ad.block ≠ M) :
    Calls Tryz.prog 44 #[.pointer (some ⟨F, 0, none⟩), .string s, .slice A n c] w fun e w' => ∃ er, e = .returned (.int .i64 er) ∧ AppR w F M ps lim arm s xs er w' := by
  by_cases hfit : Fits lim ps n
  · refine (append_D s A n c xs h hs hf hu hx hn hA hfit hM).mono ?_
    rintro e w' ⟨rfl, ps', c', hw, hd⟩
    refine ⟨_, rfl, .inr ⟨ps', c', ?_, hd⟩⟩
    by_cases ha : arm = 1
    · rw [decide_eq_true ha] at hw
      exact .inl ⟨by rw [hitE, if_pos ha], ha, hw⟩
    · rw [decide_eq_false ha] at hw
      exact .inr ⟨by rw [hitE, if_neg ha], ha, hw⟩
  · unfold Fits at hfit
    refine (append_full s A n c w F M lim arm ps clock hs hf h hu (by omega) hn9 (by omega)).mono ?_
    rintro e w' ⟨rfl, hk⟩
    exact ⟨14, rfl, .inl ⟨rfl, by omega, hk⟩⟩
/-- What an operation that cannot be refused answers, and leaves. -/
def OpR (w : World) (F M : Nat) (ps : List PF) (lim arm : Int) (d : Disk) (er : Int) (w' : World) : Prop :=
  ∃ ps' c', (er = 13 ∧ arm = 1 ∧ Went w F M ps ps' c' lim (decA arm) true w' ∧ lk ps' = lk ps) ∨ (er = 0 ∧ arm ≠ 1 ∧ Went w F M ps ps' c' lim (decA arm) false w' ∧ lk ps' = d)
theorem opR_of {w : World} {F M : Nat} {ps : List PF} {lim arm : Int} {d : Disk} {e : Ending} {w' : World} (h : DPost w F M ps (hitE arm) lim (decA arm) (decide (arm = 1)) (if arm = 1 then lk ps else d) e w') : ∃ er, e = .returned (.int .i64 er) ∧ OpR w F M ps lim arm d er w' := by
  obtain ⟨rfl, ps', c', hw, hd⟩ := h
  refine ⟨_, rfl, ps', c', ?_⟩
  by_cases ha : arm = 1
  · rw [decide_eq_true ha] at hw
    rw [if_pos ha] at hd
    exact .inl ⟨by rw [hitE, if_pos ha], ha, hw, hd⟩
  · rw [decide_eq_false ha] at hw
    rw [if_neg ha] at hd
    exact .inr ⟨by rw [hitE, if_neg ha], ha, hw, hd⟩
def PutPost (w : World) (T F M : Nat) (nm : ByteArray) (ps : List PF) (clock : Nat) (lim arm : Int) (v : Value) (qs : List PV) (next size : Nat) (ms : List PV) (e : Ending) (w' : World) : Prop :=
  ∃ er, e = .returned (.int .i64 er) ∧
    ((er = 0 ∧ ∃ ps' c' v' qs', CS w' T F M nm ps' c' lim (decA (decA arm)) false v' qs' (next + 1) (size + ((bytesP ms).length + 16)) false ∧ Moved w T F M ps ps' w' ∧ lk ps' = (lk ps).put (nm ++ dotK) (some ((oldB (lk ps (nm ++ dotK))).1 ++ frameB next (bytesP ms), ((oldB (lk ps (nm ++ dotK))).1 ++ frameB next (bytesP ms)).length)) ∧ qs'.map PV.core = putC (qs.map PV.core) (ms.map PV.core)) ∨
     (er = 14 ∧ lim < (((bytesP ms).length + 16 : Nat) : Int) + (usedL ps : Int) ∧ CS w' T F M nm ps clock lim arm false v qs next size false ∧ Moved w T F M ps ps w') ∨
     (er = 13 ∧ arm ≠ 0 ∧ ∃ ps' c' arm', CS w' T F M nm ps' c' lim arm' true v qs next size true ∧ Moved w T F M ps ps' w' ∧ lk ps' = (lk ps).put (nm ++ dotK) (some ((oldB (lk ps (nm ++ dotK))).1 ++ frameB next (bytesP ms), (oldB (lk ps (nm ++ dotK))).2))))
set_option maxRecDepth 100000 in
set_option maxHeartbeats 8000000 in
theorem put_D (w : World) (T F M : Nat) (nm : ByteArray) (ps : List PF) (clock : Nat) (lim arm : Int) (v : Value) (qs : List PV) (next size : Nat) (B : Option Addr) (m c2 : Nat) (ms : List PV)
    (h : CS w T F M nm ps clock lim arm false v qs next size false) (hm : m = ms.length) (hms : ∀ W, Kept (fun k => k = T ∨ k ∈ foot F M ps) w W → PsAt W B ms) (hq : qs.length + m ≤ 300000) (hb1 : ∀ q ∈ qs, q.b.length ≤ 1000000000) (hb2 : ∀ q ∈ ms, q.b.length ≤ 1000000000)
    (hby : (bytesP ms).length ≤ 32768) (hne : next ≤ 1000000000) (hsz : size ≤ 1000000000) (hu : usedL ps ≤ 4194304) (hnm : nm.size ≤ 1000000) (hfu : fullB (nm ++ dotK) = true) :
    Calls Tryz.prog 21 #[.pointer (some ⟨T, 0, none⟩), .slice B m c2] w (PutPost w T F M nm ps clock lim arm v qs next size ms) := by
  have H := Lib.hid h
  have HM := Lib.hid hm
  have HMs := Lib.hid hms
  have HB1 := Lib.hid hb1
  have HB2 := Lib.hid hb2
  have HU := Lib.hid hu
  have hs1 : nm.size ≤ 9223372036854775805 := by omega
  have hs2 : nm.size + 2 ≤ 9223372036854775807 := by omega
  have hs3 : ¬ 9223372036854775807 < nm.size + 2 := by omega
  have HR := Lib.hid (cready_ok w T F M nm v next size lim arm h.sb h.f.fb)
  have HKB : Hid (∀ W, Kept (fun k => k = T ∨ k ∈ foot F M ps) w W → Calls Tryz.prog 43 #[.slice B m c2] W (ClonePost W (bytesP ms))) := Lib.hid fun W hk => kBytes_any W B m c2 ms hm (by omega) (hms W hk)
  have c3 := h.sb.c3
  obtain ⟨bn, hbn⟩ : ∃ bn, bn = (bytesP ms).length := ⟨_, rfl⟩
  have Hbn := Lib.hid hbn
  have hbn9 : bn ≤ 32768 := by omega
  have HKT : Hid (∀ W, Kept (fun _ => False) w W → SB W T F nm v next size false) := Lib.hid fun W hk => h.sb.kept' hk
  clear hm hms hb1 hb2 hby hbn hu
  obtain ⟨Av, cv, rfl, hAv, -, -⟩ := h.at_
  have HAv := Lib.hid hAv
  clear h hAv
  go_enter Tryz.func21, Tryz.ntmps21
  go_upto_region 4 with (go_at_call 37; refine HR.out.mono ?_; rintro e w ⟨rfl, rfl⟩)
  go_region_held3 (fun W => W.cell? ⟨T, 3, none⟩ = some (.int .u64 (next : Nat))) (first | assumption | exact c3 | exact HK1c.out | exact HK2c.out | simp [*]) (first
    | (go_at_call 42; refine (make_any w1 next A1 (bytesP ms).length c1 (bytesP ms) (by omega) rfl (by rw [← Hbn.out]; exact hbn9) HBs1.out HA1.out).mono ?_; rintro e w2 ⟨v2, rfl, ho, hk⟩; have HO2 := Lib.hid ho; have HK2 := Lib.hid (HK1.out.trans' hk); have HK2c := Lib.hid (HKT.out _ HK2.out).c3; clear ho hk)
    | (go_at_call 43; refine (HKB.out _ (((Kept.refl (fun _ => False) _).drew).mono fun _ _ h => h.elim)).mono ?_; rintro e w1 hP; obtain ⟨A1, c1, rfl, ha, hb, hc⟩ := ClonePost.acc hP; have HBs1 := Lib.hid hb; have HA1 := Lib.hid hc; have HK1 := Lib.hid ((Kept.refl (fun _ => False) _).drew.trans' ha.2); have HK1c := Lib.hid (HKT.out _ HK1.out).c3; clear hP ha hb hc))
  all_goals
    obtain ⟨A2, c3', rfl⟩ := own_slice HO2.out
    obtain ⟨n2, hn2⟩ : ∃ n2, n2 = (frameB next (bytesP ms)).length := ⟨_, rfl⟩
    rw [← hn2]
    have Hn2 := Lib.hid hn2
    have hn29 : n2 = bn + 16 := by rw [hn2, frameB_len, Hbn.out]
    have Hn29 := Lib.hid hn29
    have hn2b : (n2 : Int) ≤ 40000 := by omega
    obtain ⟨Ax, cx, hAx, -, hbx, hAn, hbo⟩ := Bs.of_own HO2.out
    rw [← hn2] at hAx
    simp only [Value.slice.injEq] at hAx
    obtain ⟨rfl, -, rfl⟩ := hAx
    have HBx := Lib.hid hbx
    have HAn := Lib.hid hAn
    have HO2' := Lib.hid (own_ge HO2.out)
    have HK2d : Hid (Kept (fun _ => False) w w2.drew) := Lib.hid HK2.out.drew
    have HSt2 := Lib.hid (H.out.stay HK2d.out)
    have HBo : Hid (∀ ad, A2 = some ad → frameB next (bytesP ms) = [] ∨ ad.block ≠ M) := Lib.hid fun ad e => .inr fun e2 => by
      have h1 := HO2'.out ad.block (by rw [e]; rfl)
      have h2 := H.out.f.lt M (by simp [foot])
      have h3 := HK1.out.size
      omega
    have d0 := (HKT.out _ HK2.out).c0
    have d1 := (HKT.out _ HK2.out).c1
    have HAp := Lib.hid (appR_any (nm ++ dotK) A2 n2 c3' (frameB next (bytesP ms)) HSt2.out.f (by rw [size_dotK]; omega) hfu HU.out (hbx.kept (Kept.refl (fun _ => False) w2).drew (by simp)) hn2 (by omega) hAn HBo.out)
    rw [show dotK = ⟨#[46, 107]⟩ from rfl] at HAp
    clear hbo hn2 hn29 hbx hAn c3
    go_upto_region 7 with fail
  all_goals go_region_held3 (fun W => W.cell? ⟨T, 0, none⟩ = some (.pointer (some ⟨F, 0, none⟩)) ∧ W.cell? ⟨T, 1, none⟩ = some (.string nm)) (first | assumption | exact ⟨d0, d1⟩ | exact ⟨HSB3.out.c0, HSB3.out.c1⟩ | exact ⟨HSB4.out.c0, HSB4.out.c1⟩ | simp [*]) (first
    | (go_at_call 39; refine (met_any w3 T F nm _ next size false er HSB3.out).mono ?_; rintro e w4 ⟨rfl, hsb, hk⟩; have HSB4 := Lib.hid hsb; have HKT4 := Lib.hid hk; clear hsb hk)
    | (go_at_call 44; refine HAp.out.mono ?_; rintro e w3 ⟨er, rfl, hap⟩; have HAp3 := Lib.hid hap; have HSB3 : Hid (SB w3 T F nm (.slice Av qs.length cv) next size false) := Lib.hid (by rcases hap with ⟨-, -, hk⟩ | ⟨ps', c', (⟨-, -, hw⟩ | ⟨-, -, hw⟩), -⟩; exact HSt2.out.sb.kept' hk; exact HSt2.out.sb.kept hw.kept HSt2.out.nT; exact HSt2.out.sb.kept hw.kept HSt2.out.nT); clear hap))
  all_goals
    go_upto_region 8 with fail
    have HM2 : Hid (Moved w T F M ps ps w2.drew) := Lib.hid (Moved.stay HK2d.out)
    rcases HAp3.out with ⟨rfl, hfull, hk3⟩ | ⟨ps3, clk3, hw3, hd3⟩
    · have HFu := Lib.hid hfull
      have HC4 := Lib.hid ((HSt2.out.stay hk3).turn (by simpa using HSB4.out) HKT4.out)
      have HM4 := Lib.hid ((HM2.out.trans (Moved.stay hk3)).trans (Moved.turn HKT4.out))
      clear hfull hk3
      go_wp2
      go_ret
      have h1 := HFu.out
      rw [frameB_len] at h1
      exact ⟨14, rfl, .inr (.inl ⟨rfl, h1, HC4.out, HM4.out⟩)⟩
    · rcases hw3 with ⟨rfl, ha, hw⟩ | ⟨rfl, ha, hw⟩
      · have HA := Lib.hid ha
        have HC4 := Lib.hid ((HSt2.out.went hw).turn (by simpa using HSB4.out) HKT4.out)
        have HM4 := Lib.hid ((HM2.out.trans (Moved.went hw)).trans (Moved.turn HKT4.out))
        have HD3 := Lib.hid hd3
        clear ha hw hd3
        go_wp2
        go_ret
        exact ⟨13, rfl, .inr (.inr ⟨rfl, by rw [HA.out]; decide, ps3, clk3, _, HC4.out, HM4.out, HD3.out⟩)⟩
      · have HA := Lib.hid ha
        have HC4 := Lib.hid ((HSt2.out.went hw).turn (by simpa using HSB4.out) HKT4.out)
        have HM4 := Lib.hid ((HM2.out.trans (Moved.went hw)).trans (Moved.turn HKT4.out))
        have HD3 := Lib.hid hd3
        have HC4d : Hid (CS w4.drew T F M nm ps3 clk3 lim (decA arm) false (.slice Av qs.length cv) qs next size false) := Lib.hid (HC4.out.stay (Kept.refl (fun _ => False) w4).drew)
        obtain ⟨f3, hf3⟩ : ∃ f3 : FV, f3 = ((oldB (lk ps (nm ++ dotK))).1 ++ frameB next (bytesP ms), (oldB (lk ps (nm ++ dotK))).2) := ⟨_, rfl⟩
        have hl3 : lk ps3 (nm ++ dotK) = some f3 := by rw [hd3, hf3]; exact Disk.put_same _ _ _
        have HSy := Lib.hid ((sync_D (nm ++ dotK) f3 HC4d.out.f hl3).mono fun e w' h => opR_of h)
        have Hf3 := Lib.hid hf3
        rw [show dotK = ⟨#[46, 107]⟩ from rfl] at HSy
        clear ha hw hd3 hf3 hl3 d0 d1
        have d0 := HC4.out.sb.c0
        have d1 := HC4.out.sb.c1
        go_upto_region 10 with fail
        go_region_held3 (fun W => W.cell? ⟨T, 0, none⟩ = some (.pointer (some ⟨F, 0, none⟩)) ∧ W.cell? ⟨T, 1, none⟩ = some (.string nm)) (first | assumption | exact ⟨d0, d1⟩ | exact ⟨HSB6.out.c0, HSB6.out.c1⟩ | exact ⟨HSB7.out.c0, HSB7.out.c1⟩ | simp [*]) (first
          | (go_at_call 39; refine (met_any w6 T F nm _ next size false er6 HSB6.out).mono ?_; rintro e w7 ⟨rfl, hsb, hk⟩; have HSB7 := Lib.hid hsb; have HKT7 := Lib.hid hk; clear hsb hk)
          | (go_at_call 45; refine HSy.out.mono ?_; rintro e w6 ⟨er6, rfl, hop⟩; have HOp := Lib.hid hop; have HSB6 : Hid (SB w6 T F nm (.slice Av qs.length cv) next size false) := Lib.hid (by obtain ⟨ps', c', (⟨-, -, hw, -⟩ | ⟨-, -, hw, -⟩)⟩ := hop; exact HC4d.out.sb.kept hw.kept HC4d.out.nT; exact HC4d.out.sb.kept hw.kept HC4d.out.nT); clear hop))
        all_goals
          go_upto_region 11 with fail
          have HM4d : Hid (Moved w T F M ps ps3 w4.drew) := Lib.hid (HM4.out.trans (Moved.stay (Kept.refl (fun _ => False) w4).drew))
          obtain ⟨ps6, c6, hop⟩ := HOp.out
          rcases hop with ⟨rfl, ha, hw, hd⟩ | ⟨rfl, ha, hw, hd⟩
          · have HA6 := Lib.hid ha
            have HC7 := Lib.hid ((HC4d.out.went hw).turn (by simpa using HSB7.out) HKT7.out)
            have HM7 := Lib.hid ((HM4d.out.trans (Moved.went hw)).trans (Moved.turn HKT7.out))
            have HD6 := Lib.hid hd
            clear ha hw hd
            go_wp2
            go_ret
            refine ⟨13, rfl, .inr (.inr ⟨rfl, fun e => ?_, ps6, c6, _, HC7.out, HM7.out, HD6.out.trans HD3.out⟩)⟩
            have h1 := HA6.out
            rw [decA0 e] at h1
            omega
          · have HC7 := Lib.hid ((HC4d.out.went hw).turn (by simpa using HSB7.out) HKT7.out)
            have HM7 := Lib.hid ((HM4d.out.trans (Moved.went hw)).trans (Moved.turn HKT7.out))
            have HD6 := Lib.hid hd
            clear ha hw hd d0 d1
            obtain ⟨Av', cv', hav, -, -, hat7⟩ := HC7.out.at_
            simp only [Value.slice.injEq] at hav
            obtain ⟨rfl, -, rfl⟩ := hav
            have HPut := Lib.hid (kPut_any w7 Av B qs.length cv m c2 qs ms rfl HM.out (by omega) HB1.out HB2.out hat7 (HMs.out w7 HM7.out.kept))
            have t2 := HC7.out.sb.c2
            clear hat7
            go_upto_region 14 with (go_at_call 33; refine HPut.out.mono ?_; rintro e w8 ⟨v8, q8, rfl, hp, hc⟩; have HP8 := Lib.hid hp; have HC8 := Lib.hid hc; have t8 := (HC7.out.sb.kept' hp.kept).c2; have t8f := (HC7.out.sb.kept' hp.kept).fz 2; obtain ⟨A8, c8, rfl⟩ := own_slice hp.row; clear hp hc)
            obtain ⟨hst9, hk9⟩ := HC7.out.pairs HP8.out
            obtain ⟨W9, hW9⟩ : ∃ W9, W9 = w8.setCell ⟨T, 2, none⟩ (.slice A8 q8.length c8) := ⟨_, rfl⟩
            rw [← hW9] at hst9 hk9 ⊢
            have HSt9 := Lib.hid hst9
            have HK9 := Lib.hid hk9
            have u3 := hst9.sb.c3
            have u3f := hst9.sb.fz 3
            have hne9 : (next : Int) ≤ 1000000000 := by omega
            clear hW9 hst9 hk9 t8 t8f t2
            go_upto_region 15 with fail
            obtain ⟨W10, hW10⟩ : ∃ W10, W10 = W9.setCell ⟨T, 3, none⟩ (.int .u64 ((next : Int) + 1)) := ⟨_, rfl⟩
            have hk10 : Kept (fun k => k = T) W9 W10 := by rw [hW10]; exact kF W9 T 3 _
            have hst10 := HSt9.out.turn (by rw [hW10]; exact HSt9.out.sb.s3 (next + 1)) hk10
            rw [← hW10]
            have HSt10 := Lib.hid hst10
            have HK10 := Lib.hid hk10
            have u4 := hst10.sb.c4
            have u4f := hst10.sb.fz 4
            have hsz9 : (size : Int) ≤ 1000000000 := by omega
            clear hW10 hk10 hst10 u3 u3f
            go_wp2
            go_ret
            have hk11 : Kept (fun k => k = T) W10 (W10.setCell ⟨T, 4, none⟩ (.int .i64 ((size : Int) + (n2 : Int)))) := kF W10 T 4 _
            have hn2 := Hn29.out
            have hbn := Hbn.out
            have hst11 := HSt10.out.turn (size' := size + n2) (by have := HSt10.out.sb.s4 (size + n2); rw [show ((size + n2 : Nat) : Int) = (size : Int) + (n2 : Int) by omega] at this; exact this) hk11
            rw [hn2, hbn] at hst11
            refine ⟨0, rfl, .inl ⟨rfl, ps6, c6, .slice A8 q8.length c8, q8, ?_, ((HM7.out.trans (Moved.turn HK9.out)).trans (Moved.turn HK10.out)).trans (Moved.turn hk11), ?_, HC8.out⟩⟩
            · rw [hn2, hbn]
              exact hst11
            · rw [HD6.out, HD3.out, Hf3.out, put_put]
              rfl
end Go.Proofs.YtcifhfdjigfeiaaGreatDoor
end
