import Derived.Test.YthkncfdgfbnchaaDoorZo
/-! courantlaw23.CompactShort, walked. -/
section
set_option linter.unusedVariables false
set_option linter.unusedSimpArgs false
namespace Go.Proofs.YthkncfdgfbnchaaDoor
open Go.RowKit

theorem bound20 : boundI 1048576 = 1048576 := by decide
theorem nAtfull : fullB (nA ++ dotT) = true := by kernel_rfl
theorem nKT : nA ++ dotK ≠ nA ++ dotT := by decide
theorem nAK : nA ++ dotK = ⟨#[97, 46, 107]⟩ := by decide
theorem read_K (w : World) (F M : Nat) (ps : List PF) (clock : Nat) (lim : Int) (nk : ByteArray) (d : List UInt8) (n : Nat) (hn : n = d.length) (h : FilesAt w F M ps clock lim 0 false) (ho : OneK ps nk d true) :
    Calls Tryd.prog 19 #[.pointer (some ⟨F, 0, none⟩), .string nk] w fun e w' => ∃ A c, e = .returned (.tuple #[.slice A n c, .int .i64 0]) ∧ Kept (fun _ => False) w w' := by
  rcases ho with ⟨_, _, h0⟩ | ⟨p, rfl, rfl, rfl, _⟩
  · cases h0
  · refine (read_some w F M lim 0 [] [] p clock h).mono ?_
    rintro e w' ⟨v, rfl, hr, hk⟩
    obtain ⟨A, c, rfl⟩ := own_slice hr
    exact ⟨A, c, by rw [hn], hk⟩
theorem Cut.nil {qs : List PV} {parts : List (List PV)} (h : Cut qs parts) (h0 : qs.length = 0) : frLen parts = 0 := by
  have h1 := cut_len h
  have h2 : parts = [] := List.eq_nil_of_length_eq_zero (by omega)
  rw [h2]; rfl
theorem Cut.len_eq {qs : List PV} {a b : List (List PV)} (h : Cut qs a) (g : Cut qs b) : frLen a = frLen b := by rw [h.is, g.is]
theorem sumP_take {ms : List PV} {j : Nat} {p : PV} (hp : ms[j]? = some p) : sumP (ms.take (j + 1)) = sumP (ms.take j) + (pairB p).length := by
  rw [List.take_add_one, hp, sumP_append]; rw [Option.toList_some, sumP_one]
theorem sumP_take_le (ms : List PV) (j : Nat) : sumP (ms.take j) ≤ sumP ms := by
  conv => rhs; rw [← List.take_append_drop j ms, sumP_append]
  omega
set_option maxRecDepth 100000 in
set_option maxHeartbeats 8000000 in
theorem cshort_any (w : World) (A : Option Addr) (n c : Nat) (ls : List LV) (hn : n = ls.length) (hn9 : n ≤ 140737488355328) (h : PssAt w A ls) :
    Calls Tryd.prog 8 #[.slice A n c] w fun e w' => e = .returned (.bool true) ∧ Kept (fun _ => False) w w' := by
  have H := Lib.hid h
  have Hn := Lib.hid hn
  have hn8 : (n : Int) ≤ 140737488355328 := by omega
  have HN := Lib.hid (new_any w 1048576)
  rw [show NewPost w 1048576 = NewPost w 1048576 from rfl] at HN
  clear h hn
  go_enter Tryd.func8, Tryd.ntmps8
  go_upto_region 3 with (first
    | (go_at_call 10; refine HN.out.mono ?_; rintro e w1 ⟨F, M, rfl, hF, hk, hF1, hM1⟩; rw [bound20] at hF; have HF := Lib.hid hF; have HK1 := Lib.hid hk; have HF1 := Lib.hid hF1; have HM1 := Lib.hid hM1; clear hF hk hF1 hM1)
    | (go_at_call 35; refine (open_new w1 F M [] 0 1048576 0 nA (by decide) nA_full HF.out (by simp) (by simp)).mono ?_; rintro e w2 ⟨T, rfl, hT, hsb, hk2⟩; have HT := Lib.hid hT; have HSB := Lib.hid hsb; have HK2 := Lib.hid hk2; clear hT hsb hk2))
  go_upto_region 5 with (go_at_call 36; refine (awake23_any w2).mono ?_; rintro e w3 ⟨rfl, hk3⟩; have HK3 := Lib.hid hk3; clear hk3)
  have HI0 : Hid (ShI w T F M 0 none [] [] [] 0 (.slice none 0 0) 0 [] false w3) := Lib.hid (by
    have hft : ∀ k ∈ foot F M [], w.heap.size ≤ k ∧ k < w1.heap.size := fun k hm => ⟨by
      have h1 := HF1.out; have h2 := HM1.out
      have : k = F ∨ k = M := by simpa [foot] using hm
      omega, HF.out.lt k hm⟩
    have hk13 := HK2.out.trans' HK3.out
    refine ⟨SAt.fresh (HF.out.kept hk13 (by simp)) (HSB.out.kept' HK3.out) (fun hm => by have := (hft T hm).2; have := HT.out; omega) (.inl rfl) (fun k hk => .inr (.inl hk)), .inl ⟨rfl, rfl, rfl⟩, fun W _ => PsAt.nil _ _, rfl, fun q hq => by simp at hq, by simp, by simp, Nat.le_refl _, HK1.out.trans' hk13, fun j hj => ?_⟩
    have h3 := HK1.out.size
    have h4 := hk13.size
    rcases hj with rfl | hj | hj
    · have := HT.out; omega
    · exact (hft j hj).1
    · omega)
  clear HF HK1 HF1 HM1 HT HSB HK2 HK3 HN
  go_wp2_with fail
  go_loopw [6, 7] (fun l i wr => ∃ (k : Nat) (Al : Option Addr) (cl : Nat) (ms qs : List PV) (ps : List PF) (clock : Nat) (v : Value) (next : Nat) (d : List UInt8) (made : Bool), k ≤ n ∧ k ≤ 30 ∧ i = .int .i64 k ∧ l = .slice Al ms.length cl ∧ Hid (ShI w T F M k Al ms qs ps clock v next d made wr)) (fun _ i _ => n - (intOf i).toNat)
  case atStart => exact ⟨0, none, 0, [], [], [], 0, _, 0, [], false, by omega, by omega, rfl, rfl, HI0⟩
  case round =>
    obtain ⟨k, Al, cl, ms, qs, ps, clock, v, next, d, made, hk, hk30, rfl, rfl, hI⟩ := hrel
    obtain ⟨lm, hlm⟩ : ∃ lm, lm = ms.length := ⟨_, rfl⟩
    rw [← hlm]
    have Hlm := Lib.hid hlm
    have hlm9 : (lm : Int) ≤ 150 := by have := hI.out.len; omega
    clear hlm
    by_cases hlt : k < n ∧ k < 30
    · obtain ⟨hlt, hlt30⟩ := hlt
      have hk9 : (k : Int) < (n : Int) := by omega
      have hk7 : (k : Int) < 30 := by omega
      obtain ⟨l, hl⟩ : ∃ l, ls[k]? = some l := ⟨_, List.getElem?_eq_getElem (by have := Hn.out; omega)⟩
      obtain ⟨ad, rfl, hc, hP, hz, hlz⟩ := H.out k l hl
      have hc0 := hc
      have hc := hI.out.kept.cell hc (by simp)
      obtain ⟨m, hm⟩ : ∃ m, m = l.ps.length := ⟨_, rfl⟩
      rw [← hm] at hc hlz hc0
      have Hm := Lib.hid hm
      have HP := Lib.hid hP
      have HFew := Lib.hid (few_any wr l.A m l.c l.ps hm hlz (hP.kept hI.out.kept) hz)
      obtain ⟨r, hr⟩ : ∃ r, r = fewP l.ps := ⟨_, rfl⟩
      rw [← hr] at HFew
      have Hr := Lib.hid hr
      have hcw := hc0
      have Hcw := Lib.hid hcw
      clear hl hP hz hlz hm hr hc0 hcw
      cases r
      · go_wp2_with (go_at_call 37; refine HFew.out.mono ?_; rintro e w4 ⟨rfl, mm, rfl⟩)
        go_roundw
        case rel => exact ⟨k + 1, Al, cl, ms, qs, ps, clock, v, next, d, made, by omega, by omega, by go_num, by rw [Hlm.out], Lib.hid (hI.out.stay ((Kept.refl _ _).drewN _) (by omega))⟩
        case measure => simp [intOf]; omega
      · by_cases hbig : 100 < lm
        · have hb9 : (100 : Int) < (lm : Int) := by omega
          go_wp2_with (go_at_call 37; refine HFew.out.mono ?_; rintro e w4 ⟨rfl, mm, rfl⟩)
          go_roundw
          case rel => exact ⟨k + 1, Al, cl, ms, qs, ps, clock, v, next, d, made, by omega, by omega, by go_num, by rw [Hlm.out], Lib.hid (hI.out.stay ((Kept.refl _ _).drewN _) (by omega))⟩
          case measure => simp [intOf]; omega
        · have hb9 : ¬ (100 : Int) < (lm : Int) := by omega
          have HFS := Lib.hid (few_small Hr.out.symm)
          have HQ : Hid (qs.length = lm ∧ (∀ q ∈ qs, wt q ≤ 3000)) := Lib.hid ⟨by have h1 := congrArg List.length hI.out.core; simp only [List.length_map] at h1; rw [h1, Hlm.out], by rw [wt_core, hI.out.core, ← wt_core]; exact hI.out.small⟩
          go_upto_region 10 with (go_at_call 37; refine HFew.out.mono ?_; rintro e w4 ⟨rfl, mm, rfl⟩)
          obtain ⟨w4, hw4⟩ : ∃ w4, w4 = wr.drewN mm := ⟨_, rfl⟩
          have hI4 : Hid (ShI w T F M k Al ms qs ps clock v next d made w4) := Lib.hid (by rw [hw4]; exact hI.out.stay ((Kept.refl _ _).drewN _) (Nat.le_refl _))
          rw [← hw4]
          have hc4 := ((Kept.refl (fun _ => False) wr).drewN mm).cell hc (by simp)
          rw [← hw4] at hc4
          have HPs : Hid (PsL (Zs w4 T F M ps) w4 l.A l.ps) := Lib.hid fun W hW => HP.out.kept (hI4.out.kept.trans hW fun i hi e => by have := hI4.out.new i e; omega)
          have HPut : Hid (Calls Tryd.prog 38 #[.pointer (some ⟨T, 0, none⟩), .slice l.A m l.c] w4 fun e w' => e = .returned (.int .i64 0) ∧ ∃ ps' clock' v' qs', SAt (Zs w4 T F M ps) w' T F M nA ps' clock' 1048576 v' qs' (next + 1) (d.length + ((bytesP l.ps).length + 16)) ∧ OneK ps' (nA ++ dotK) (d ++ frameB next (bytesP l.ps)) true ∧ qs'.map PV.core = putC (qs.map PV.core) (l.ps.map PV.core) ∧ Kept (fun k => Zs w4 T F M ps k) w4 w') := Lib.hid (by
            have h1 := HFS.out
            have h2 := hI4.out.dl
            have h3 := hI4.out.nx
            have h4 := HQ.out
            exact cput_ok (Zs w4 T F M ps) w4 T F M nA ps clock 1048576 v qs next d.length d made l.A m l.c l.ps hI4.out.st hI4.out.one Hm.out HPs.out (fun k hk => .inr (.inr hk)) (by rw [Hm.out]; omega) (fun q hq => by have := h4.2 q hq; unfold wt at this; omega) (fun q hq => by have := h1.2.1 q hq; unfold wt at this; omega) (by omega) (by omega) (by omega) (by omega) (by decide) nA_full)
          clear hc hw4
          go_wp2_with (first
            | (go_at_call 38; refine HPut.out.mono ?_; rintro e w5 ⟨rfl, ps', clk', v', qs', hst, hone, hco, hk5⟩; have HSt := Lib.hid hst; have HOne := Lib.hid hone; have HCo := Lib.hid hco; have HK5 := Lib.hid hk5; have hc5 := (hI4.out.kept.trans hk5 (fun i hi e => (by have := hI4.out.new i e; omega))).cell Hcw.out (by simp); clear hst hone hco hk5)
            | (go_at_call 39; refine (refPut_any w5 Al l.A lm cl m l.c ms l.ps Hlm.out Hm.out (by have := HFS.out.1; rw [Hm.out]; omega) (fun q hq => by have := hI4.out.small q hq; unfold wt at this; omega) (fun q hq => by have := HFS.out.2.1 q hq; unfold wt at this; omega) (hI4.out.ref w5 HK5.out) (HPs.out w5 HK5.out)).mono ?_; rintro e w6 ⟨v6, ms', rfl, ho6, hc6⟩; obtain ⟨A6, c6, hv6, hI6⟩ := hI4.out.put (by rw [← Hlm.out]; omega) HFS.out.1 HFS.out.2.1 HFS.out.2.2 HSt.out HOne.out HCo.out HK5.out ho6 hc6; subst hv6; have HI6 := Lib.hid hI6; clear ho6 hc6 hI6))
          go_roundw
          case rel => exact ⟨k + 1, A6, c6, ms', qs', ps', clk', v', next + 1, _, true, by omega, by omega, by go_num, rfl, HI6⟩
          case measure => simp [intOf]; omega
    · have HQ : Hid (qs.length = lm ∧ (∀ q ∈ qs, wt q ≤ 3000) ∧ sumP qs = sumP ms ∧ sumP ms ≤ 450000) := Lib.hid (by
        have h1 := congrArg List.length hI.out.core
        simp only [List.length_map] at h1
        have h2 := sum_small hI.out.small
        have h3 := hI.out.len
        exact ⟨by rw [h1, Hlm.out], by rw [wt_core, hI.out.core, ← wt_core]; exact hI.out.small, sumP_core hI.out.core, by omega⟩)
      have HDl : Hid (d.length ≤ 96000) := Lib.hid (by have := hI.out.dl; omega)
      have HCt : Hid (∀ parts, Cut qs parts → frLen parts ≤ sumP ms + 19 * (sumP ms / 16384 + 1) ∧ (frLen parts : Int) ≤ 451000) := Lib.hid (fun parts hc => by
        have h1 := HQ.out
        have h2 := cut_total hc (by omega)
        rw [h1.2.2.1] at h2
        refine ⟨h2, ?_⟩
        have h3 : sumP ms / 16384 ≤ 27 := by omega
        omega)
      have HComp : Hid (∀ (w : World) (pz : List PF) (ck nx sz : Nat) (dz : List UInt8) (mz : Bool), SAt (Zs wr T F M ps) w T F M nA pz ck 1048576 v qs nx sz → OneK pz (nA ++ dotK) dz mz → (∀ k, w.heap.size ≤ k → Zs wr T F M ps k) → dz.length ≤ 451000 → Calls Tryd.prog 40 #[.pointer (some ⟨T, 0, none⟩)] w fun e w' => e = .returned (.int .i64 0) ∧ ∃ parts ps' clock', Cut qs parts ∧ SAt (Zs wr T F M ps) w' T F M nA ps' clock' 1048576 v qs parts.length (frLen parts) ∧ OneK ps' (nA ++ dotK) (frsL 0 (parts.map bytesP)) true ∧ Kept (fun k => Zs wr T F M ps k) w w') := Lib.hid (fun w pz ck nx sz dz mz hs ho hz hd =>
        ccompact_ok (Zs wr T F M ps) w T F M nA pz ck 1048576 v qs nx sz dz mz hs ho hz (by have := HQ.out; omega) HQ.out.2.1 (by decide) nA_full nAtfull nKT (by omega) (fun parts hc => by have := (HCt.out parts hc).2; omega))
      have HC1 := Lib.hid (HComp.out wr ps clock next d.length d made hI.out.st hI.out.one (fun k hk => .inr (.inr hk)) (by have := HDl.out; omega))
      have hcond : ¬ ((k : Int) < (n : Int)) ∨ ((k : Int) < (n : Int)) ∧ ¬ ((k : Int) < 30) := by omega
      clear hlt
      have HZn : Hid (∀ b : World, Kept (fun k => Zs wr T F M ps k) wr b → Kept (fun _ => False) w b) := Lib.hid (fun b hb => hI.out.kept.trans hb fun i hi e => by have := hI.out.new i e; omega)
      rcases hcond with hcond | ⟨hcond, hcond2⟩
      all_goals
        go_upto_region 15 with (first
          | (go_at_call 40; refine HC1.out.mono ?_; rintro e w1 ⟨rfl, parts, ps1, clk1, hcut, hst1, hone1, hk1⟩; have HCut := Lib.hid hcut; obtain ⟨fl, hfl⟩ : ∃ fl, fl = frLen parts := ⟨_, rfl⟩; rw [← hfl] at hst1; have Hfl := Lib.hid hfl; clear hfl; have HSt1 := Lib.hid hst1; have HOne1 := Lib.hid hone1; have HK1 := Lib.hid hk1; have HAll := Lib.hid (call_any _ w1 T F M nA ps1 clk1 _ v qs _ _ hst1 (by have := HQ.out; omega) (fun q hq => by have h9 := HQ.out.2.1 q hq; unfold wt at h9; omega)); clear hcut hst1 hone1 hk1)
          | (go_at_call 42; refine HAll.out.mono ?_; rintro e w2 ⟨A2, c2, q2, rfl, hA2, hp2, hc2, hk2⟩; obtain ⟨l2, hl2⟩ : ∃ l2, l2 = q2.length := ⟨_, rfl⟩; rw [← hl2]; have HEq : Hid (Calls Tryd.prog 41 #[.slice A2 l2 c2, .slice Al lm cl] w2 fun e w' => e = .returned (.bool true) ∧ Kept (fun _ => False) w2 w') := Lib.hid (by have h9 := pairs_any w2 A2 Al l2 lm c2 cl q2 ms hl2 Hlm.out (by have h8 := congrArg List.length hc2; have h7 := putC_len (qs.map PV.core) []; simp only [List.length_map, List.length_nil] at h8 h7; have := HQ.out; omega) hp2 ((hI.out.ref w1 HK1.out).kept hk2); rw [decide_eq_true (by rw [hc2, hI.out.core]; rfl)] at h9; exact h9); have HK2 := Lib.hid hk2; clear hA2 hp2 hc2 hk2 hl2)
          | (go_at_call 41; refine HEq.out.mono ?_; rintro e w3 ⟨rfl, hk3⟩; have HK3 := Lib.hid (HK2.out.trans' hk3); have HSt3 := Lib.hid (HSt1.out.stay HK3.out); clear hk3))
      all_goals
        have hfl9 : (fl : Int) ≤ 451000 := by have := (HCt.out parts HCut.out).2; rw [← Hfl.out] at this; exact this
        have HU := Lib.hid (used_any w3 F M 1048576 0 false ps1 clk1 HSt3.out.f (by rw [HOne1.out.used, frsL_len, ← Hfl.out]; omega))
        rw [HOne1.out.used, frsL_len, ← Hfl.out] at HU
        by_cases h0 : lm = 0
        · obtain rfl : fl = 0 := by rw [Hfl.out]; exact HCut.out.nil (by rw [HQ.out.1, h0])
          subst h0
          go_wp2_with (first
            | (go_at_call 43; refine (csize_any w3 T F nA v _ 0 false HSt3.out.sb).mono ?_; rintro e w9 ⟨rfl, rfl⟩)
            | (go_at_call 14; refine HU.out.mono ?_; rintro e w4 ⟨rfl, hk4⟩; have HK4 := Lib.hid hk4; clear hk4))
          go_ret
          exact ⟨rfl, HZn.out _ ((HK1.out.trans' (HK3.out.mono fun _ _ h => h.elim)).trans' (HK4.out.mono fun _ _ h => h.elim))⟩
        · have h09 : ¬ ((lm : Int) = 0) := by omega
          have HRd := Lib.hid (read_K w3 F M ps1 clk1 1048576 (nA ++ dotK) _ fl (by rw [frsL_len, Hfl.out]) HSt3.out.f HOne1.out)
          rw [nAK] at HRd
          go_wp2_with (first
            | (go_at_call 43; refine (csize_any w3 T F nA v _ fl false HSt3.out.sb).mono ?_; rintro e w9 ⟨rfl, rfl⟩)
            | (go_at_call 19; refine HRd.out.mono ?_; rintro e w4 ⟨A4, c4, rfl, hk4⟩; have HK4 := Lib.hid hk4; clear hk4))
          have HK34 := Lib.hid (HK3.out.trans' HK4.out)
          go_loopw [11, 12] (fun s i wx => ∃ j : Nat, j ≤ lm ∧ i = .int .i64 j ∧ s = .int .i64 (sumP (ms.take j) : Nat) ∧ Hid (Kept (fun _ => False) w1 wx)) (fun _ i _ => lm - (intOf i).toNat)
          case atStart => exact ⟨0, by omega, rfl, rfl, HK34⟩
          case round =>
            obtain ⟨j, hj, rfl, rfl, hKx⟩ := hrel
            obtain ⟨tot, htot⟩ : ∃ tot, tot = sumP (ms.take j) := ⟨_, rfl⟩
            rw [← htot]
            have htot9 : (tot : Int) ≤ 450000 := by have h1 := sumP_take_le ms j; have h2 := HQ.out.2.2.2; omega
            have Htot := Lib.hid htot
            clear htot
            by_cases hlt : j < lm
            · have hj9 : (j : Int) < (lm : Int) := by omega
              obtain ⟨p, hp⟩ : ∃ p, ms[j]? = some p := ⟨_, List.getElem?_eq_getElem (by have := Hlm.out; omega)⟩
              obtain ⟨ad, rfl, hc, hok⟩ := ((hI.out.ref w1 HK1.out).kept hKx.out) j p hp
              have hc0 := hc.c0
              have hc1 := hc.c1
              have hc2 := hc.c2
              have Hsn := Lib.hid (sumP_take hp)
              have hwp := hI.out.small p (List.mem_of_getElem? hp)
              have HPS : Hid (PsAt (wr.alloc (.cells #[.string p.key, p.val, .bool p.gone] 77)) (some ⟨wr.heap.size, 0, none⟩) [p]) := Lib.hid (fun i q hq => by
                cases i with
                | zero =>
                  simp at hq; subst hq
                  have hb := boxP_new wr p
                  have e0 : (⟨wr.heap.size, 0, none⟩ : Addr).add (0 * 3) = ⟨wr.heap.size, 0, none⟩ := by simp [Addr.add]
                  refine ⟨_, rfl, ?_, hok.1.kept ((Kept.refl (fun _ => False) wr).alloc _) (by simp), hok.2⟩
                  rw [e0]
                  exact ⟨hb.c0, hb.c1, hb.c2⟩
                | succ i => simp at hq)
              have HRB := Lib.hid (refBytes_any (wr.alloc (.cells #[.string p.key, p.val, .bool p.gone] 77)) (some ⟨wr.heap.size, 0, none⟩) 1 1 [p] rfl (by rw [bytesP_one]; have := pair_small hwp; omega) HPS.out)
              obtain ⟨en, hen⟩ : ∃ en, en = (bytesP [p]).length := ⟨_, rfl⟩
              have hen9 : (en : Int) ≤ 3001 := by rw [hen, bytesP_one]; have := pair_small hwp; omega
              have Hen := Lib.hid hen
              have HK5 : Hid (Kept (fun _ => False) w1 (wr.alloc (.cells #[.string p.key, p.val, .bool p.gone] 77))) := Lib.hid (hKx.out.alloc _)
              obtain ⟨key, b, gone, pA, pc⟩ := p
              simp only [PV.val] at hc0 hc1 hc2 HRB HK5
              clear hc hok hp hwp hen HPS
              go_wp2_with (go_at_call 44; refine HRB.out.mono ?_; rintro e w6 hP; obtain ⟨A6, c6, rfl, ha, -, -⟩ := ClonePost.acc hP; rw [← Hen.out]; have HA6 := Lib.hid ha; clear hP ha)
              go_roundw
              case rel =>
                refine ⟨j + 1, by omega, by go_num, ?_, Lib.hid (HK5.out.trans' HA6.out.2)⟩
                have h1 := Hsn.out
                have h2 := Hen.out
                rw [bytesP_one] at h2
                rw [h1, ← Htot.out]
                exact congrArg (Value.int .i64) (by omega)
              case measure => simp [intOf]; omega
            · have hjl : j = lm := by omega
              have HTot : Hid (tot = sumP ms) := Lib.hid (by rw [Htot.out, hjl, Hlm.out, List.take_length])
              have hj9 : ¬ (j : Int) < (lm : Int) := by omega
              have hle : (fl : Int) ≤ (tot : Int) + 19 * ((tot : Int) / 16384 + 1) := by
                have h1 := (HCt.out parts HCut.out).1
                rw [← Hfl.out, ← HTot.out] at h1
                omega
              have HSt5 := Lib.hid (HSt1.out.stay hKx.out)
              have HU5 := Lib.hid (used_any wr F M 1048576 0 false ps1 clk1 HSt5.out.f (by rw [HOne1.out.used, frsL_len, ← Hfl.out]; omega))
              rw [HOne1.out.used, frsL_len, ← Hfl.out] at HU5
              clear hj hjl
              go_wp2_with (first
                | (go_at_call 14; refine HU5.out.mono ?_; rintro e w7 ⟨rfl, hk7⟩; have HK7 := Lib.hid (hKx.out.trans' hk7); have HC7 := Lib.hid (HComp.out w7 ps1 clk1 parts.length fl _ true (HSt1.out.stay HK7.out) HOne1.out (fun k hk => .inr (.inr (Nat.le_trans (Nat.le_trans HK1.out.size HK7.out.size) hk))) (by rw [frsL_len, ← Hfl.out]; omega)); clear hk7)
                | (go_at_call 40; refine HC7.out.mono ?_; rintro e w8 ⟨rfl, parts2, ps2, clk2, hcut2, hst2, hone2, hk8⟩; rw [hcut2.len_eq HCut.out, ← Hfl.out] at hst2; have HSt8 := Lib.hid hst2; have HK8 := Lib.hid hk8; clear hcut2 hst2 hone2 hk8)
                | (go_at_call 43; refine (csize_any w8 T F nA v _ fl false HSt8.out.sb).mono ?_; rintro e w9 ⟨rfl, rfl⟩))
              go_ret
              refine ⟨rfl, HZn.out _ ((HK1.out.trans' (HK7.out.mono fun _ _ h => h.elim)).trans' HK8.out)⟩
end Go.Proofs.YthkncfdgfbnchaaDoor
end
