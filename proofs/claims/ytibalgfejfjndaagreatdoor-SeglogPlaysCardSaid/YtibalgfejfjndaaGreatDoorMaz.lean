import Derived.Test.YtibalgfejfjndaaGreatDoorMay
/-! SeglogPlays' world: open. -/
section
set_option linter.unusedVariables false
set_option linter.unusedSimpArgs false
namespace Go.Proofs.YtibalgfejfjndaaGreatDoor
open Go.RowKit
section
variable {w0 W W' : World} {B N N6 T F M c k i : Nat} {d d' dF : Wd} {G G1 : List Prt} {rs : List BV} {ps : List PF} {lim arm : Int} {v : Value} {ms : List PM}
theorem PW.of {sf : Nat} (h : WL w0 W B dF G rs N T F M ps c lim arm false v ms false) (hT : dF.T = T) (hF : dF.F = F) (hd : dF.down = false) (hu : dF.under = 0) (hp : prts ms = G) (hl : LgD ps G [] sf) (hs : SafeB G dF.safe sf) (hpg : PG dF G rs N i) (hus : usedL ps ≤ 1000 * i) (hr : dF.room = true → lim = 1048576) : PW w0 W B dF G rs N i := by
  subst hT
  subst hF
  refine ⟨hpg, M, ps, c, lim, arm, v, ms, by rw [hd]; exact h, hus, hr, fun _ => ⟨hu, hp, sf, hl, hs⟩, fun e => ?_⟩
  rw [hd] at e; cases e
/-- Ahead of open's last lines. -/
structure EE (w0 W : World) (B : Nat) (dE : Wd) (GE : List Prt) (rsE : List BV) (NE T F M : Nat) (ps : List PF) (c : Nat) (lim arm : Int) (v : Value) (ms : List PM) (sf i : Nat) : Prop where
  wl : WL w0 W B dE GE rsE NE T F M ps c lim arm false v ms false
  pr : prts ms = GE
  lg : LgD ps GE [] sf
  sb : SafeB GE dE.safe sf
  pg : PG dE GE rsE NE i
  eT : dE.T = T
  eF : dE.F = F
  us : usedL ps ≤ 1000 * i
  room : dE.room = true → lim = 1048576
/-- Ahead of the cut. -/
structure MM (w0 W : World) (B : Nat) (d7 : Wd) (G1 : List Prt) (rs7 : List BV) (N7 T F M : Nat) (ps : List PF) (c : Nat) (lim arm : Int) (v : Value) (ms : List PM) (s1 i : Nat) : Prop where
  wl : WL w0 W B d7 G1 rs7 N7 T F M ps c lim arm false v ms false
  sf : d7.safe = s1
  eT : d7.T = T
  eF : d7.F = F
  room : d7.room = true → lim = 1048576
  hN : N7 ≤ i
  rA : ∀ r ∈ rs7, r.A = none → r.c = 0
theorem MM.stay {s1 i N7 : Nat} {d7 : Wd} {rs7 : List BV} (h : MM w0 W B d7 G1 rs7 N7 T F M ps c lim arm v ms s1 i) (hk : Kept (fun _ => False) W W') : MM w0 W' B d7 G1 rs7 N7 T F M ps c lim arm v ms s1 i := ⟨h.wl.stay hk, h.sf, h.eT, h.eF, h.room, h.hN, h.rA⟩
theorem EE.put {sf NE : Nat} {dE d2 : Wd} {GE : List Prt} {rsE : List BV} (h : EE w0 W B dE GE rsE NE T F M ps c lim arm v ms sf i) (j : Nat) (u : Value) (hd : dE.cells.setIfInBounds j u = d2.cells) (e1 : d2.rv = dE.rv) (e2 : d2.sv = dE.sv) (e3 : d2.first = dE.first) (e4 : d2.safe = dE.safe) (e5 : d2.T = dE.T) (e6 : d2.F = dE.F) (e7 : d2.room = dE.room) : EE w0 (W.setCell ⟨B, j, none⟩ u) B d2 GE rsE NE T F M ps c lim arm v ms sf i := by
  have h1 := h.wl.g.put0 j u d2 hd e1 e2 e3
  exact ⟨h.wl.wmv h1.2 h1.1, h.pr, h.lg, by rw [e4]; exact h.sb, ⟨h.pg.sm, h.pg.nm, h.pg.rA, by rw [e4]; exact h.pg.sf, h.pg.hN⟩, by rw [e5]; exact h.eT, by rw [e6]; exact h.eF, h.us, by rw [e7]; exact h.room⟩
theorem MM.put {s1 N7 : Nat} {d7 d2 : Wd} {rs7 : List BV} (h : MM w0 W B d7 G1 rs7 N7 T F M ps c lim arm v ms s1 i) (hm : WMv w0 W B d7 W' d2) : True := trivial
set_option maxRecDepth 100000 in
set_option maxHeartbeats 40000000 in
theorem wOpen_any {fell wh dn : Bool} {an : Int} {A3 : Option Addr} {n3 c3 s1 : Nat} (hS : SF w0 W B d G rs N d.F M lim G1 s1 (1000 * i) wh arm dn) (hU : UnderOf w0 d G G1 s1) (hpg : PG d G rs N i) (h1 : Sml G1 i) (hi : i ≤ 60) (hroom : d.room = true → lim = 1048576) (hup : d.down = false → d.under = 0)
    (hc : (dn = true ∧ (fell = true ∨ d.down = true)) ∨ (dn = false ∧ fell = false ∧ d.down = false ∧ wh = false)) (han : an ≤ 9223372036854775807) (hks : ∀ j, j < n3 → ∃ ad z, A3 = some ad ∧ w0.cell? (ad.add j) = some (.int .i64 z)) :
    Calls Tryz.prog 21 #[.pointer (some ⟨B, 0, none⟩), .bool fell, .int .i64 an, .slice A3 n3 c3] W fun e w' => e = .returned (.bool true) ∧ ∃ d' G' rs' N', PW w0 w' B d' G' rs' N' (i + 1) := by
  obtain ⟨F, hF⟩ : ∃ F, F = d.F := ⟨_, rfl⟩
  rw [← hF] at hS
  have H0 : Hid (∀ W', WG w0 W' B d G rs N → W'.cell? ⟨B, 0, none⟩ = some (.pointer (some ⟨F, 0, none⟩))) := Lib.hid fun W' h => by rw [hF]; exact h.wb.c0
  have HSt : Hid (Calls Tryz.prog 47 #[.pointer (some ⟨F, 0, none⟩)] W fun e w' => e = .returned (.tuple #[]) ∧ SF w0 w' B d G rs N F M lim G1 s1 (1000 * i) dn 0 false) := Lib.hid (by
    cases dn
    · obtain ⟨-, -, -, rfl⟩ := hc.resolve_left fun e => by cases e.1
      exact hS.startUp
    · exact hS.started h1 (by omega))
  have HU := Lib.hid hU
  have HPG := Lib.hid hpg
  have H1 := Lib.hid h1
  have HRoom := Lib.hid hroom
  have HUp := Lib.hid hup
  have HF := Lib.hid hF
  have HKs := Lib.hid hks
  have HC1 : Hid (dn = true → (fell = true ∨ d.down = true)) := Lib.hid fun e => (hc.resolve_right fun h => by rw [e] at h; cases h.1).2
  have HC0 : Hid (dn = false → fell = false ∧ d.down = false) := Lib.hid fun e => by have := (hc.resolve_left fun h => by rw [e] at h; cases h.1); exact ⟨this.2.1, this.2.2.1⟩
  have c0 := H0.out W hS.wf0
  clear hS hU hpg h1 hroom hup hF hc hks
  go_enter Tryz.func21, Tryz.ntmps21
  go_upto_region 2 with (go_at_call 47; refine HSt.out.mono ?_; rintro e w1 ⟨rfl, hs1⟩; have HS1 := Lib.hid hs1; have k1 := H0.out _ hs1.wf0; clear hs1)
  clear c0
  go_upto_region 3 with (go_at_call 19; refine (HS1.out.armed an han).mono ?_; rintro e w2 ⟨rfl, hs2⟩; have HS2 := Lib.hid hs2; have k2 := H0.out _ hs2.wf0; clear hs2)
  clear k1
  have HOp := Lib.hid (HS2.out.opened H1.out (by omega))
  go_upto_region 4 with (go_at_call 5; refine HOp.out.mono ?_; rintro e w3 hop; obtain ⟨x3, g3, rfl⟩ : ∃ (x3 : Value) (g3 : Int), e = .returned (.tuple #[x3, .int .i64 g3]) := (by rcases hop with ⟨h1, -⟩ | ⟨T2, h1, -⟩; exact ⟨_, _, h1⟩; exact ⟨_, _, h1⟩); have HOp3 := Lib.hid hop; clear hop)
  clear k2
  go_wp2_with fail
  go_loopw [1, 9, 10, 11] (fun fl x g kv wr => Hid ((g = .int .i64 13 ∧ kv = .int .i64 0 ∧ ∃ a, SF w0 wr B d G rs N F M lim G1 s1 (1000 * i) dn a true) ∨ (∃ T2 fb wh2, fl = .bool fb ∧ x = .pointer (some ⟨T2, 0, none⟩) ∧ g = .int .i64 0 ∧ (∃ kk : Int, kv = .int .i64 kk) ∧ OL w0 wr B d G rs N T2 F M lim G1 s1 (1000 * i) wh2 ∧ ((fb = true ∨ d.down = true) → wh2 = true) ∧ (fb = false ∧ d.down = false → wh2 = false)))) (fun _ _ g _ _ => (intOf g).toNat)
  case atStart =>
    rcases HOp3.out with ⟨h1, h2, a, h3⟩ | ⟨T2, h1, h3⟩
    · simp only [Ending.returned.injEq, Value.tuple.injEq, Array.mk.injEq, List.cons.injEq, and_true] at h1
      exact Lib.hid (.inl ⟨h1.2, rfl, a, h3⟩)
    · simp only [Ending.returned.injEq, Value.tuple.injEq, Array.mk.injEq, List.cons.injEq, and_true] at h1
      refine Lib.hid (.inr ⟨T2, fell, dn, rfl, h1.1, h1.2, ⟨0, rfl⟩, h3, fun e => ?_, fun e => ?_⟩)
      · cases hdn : dn
        · have := HC0.out hdn
          rw [this.1, this.2] at e
          rcases e with e | e <;> cases e
        · rfl
      · cases hdn : dn
        · rfl
        · have := HC1.out hdn
          rw [e.1, e.2] at this
          rcases this with e | e <;> cases e
  case round =>
    rcases hrel.out with ⟨rfl, rfl, a, hd⟩ | ⟨T2, fb, wh2, rfl, rfl, rfl, hk, hop, hw1, hw2⟩
    · have HD := Lib.hid hd
      have f1 := H0.out _ hd.wf0
      clear hd hrel
      go_upto_region 9 with (go_at_call 20; refine (HD.out.fallen H1.out (by omega) HKs.out).mono ?_; rintro e w4 ⟨rfl, hs4⟩; have HS4 := Lib.hid hs4; have f4 := H0.out _ hs4.wf0; clear hs4)
      go_upto_region 10 with (go_at_call 47; refine (HS4.out.started H1.out (by omega)).mono ?_; rintro e w5 ⟨rfl, hs5⟩; have HS5 := Lib.hid hs5; have f5 := H0.out _ hs5.wf0; clear hs5)
      clear f1 f4
      have HOp5 := Lib.hid (HS5.out.opened H1.out (by omega))
      go_wp2_with (go_at_call 5; refine HOp5.out.mono ?_; rintro e w6 (⟨-, h0, -⟩ | ⟨T2, rfl, hop⟩); exact absurd rfl h0; have HOp6 := Lib.hid hop; clear hop)
      go_roundw
      case rel => exact Lib.hid (.inr ⟨T2, true, true, rfl, rfl, rfl, ⟨1, rfl⟩, HOp6.out, fun _ => rfl, fun e => by cases e.1⟩)
      case measure => simp [intOf]
    · have HO := Lib.hid hop
      have f1 := H0.out _ (by obtain ⟨_, _, _, _, _, _, _, hw, _⟩ := hop.ex; exact hw.g)
      have HW1 := Lib.hid hw1
      have HW2 := Lib.hid hw2
      clear hop hrel hw1 hw2
      obtain ⟨kk, rfl⟩ := hk
      go_upto_region 12 with (go_at_call 19; refine HO.out.armed.mono ?_; rintro e w4 ⟨rfl, ho⟩; have HO4 := Lib.hid ho; clear ho)
      clear f1
      obtain ⟨ps4, c4, a4, v4, ms4, sf4, D4, hwl, hpr, hlg, hun, hsb1, hsb0, hus⟩ := HO4.out.ex
      have c1 := hwl.g.wb.c1
      have z1 := hwl.g.wb.fz 1
      have HWL := Lib.hid hwl
      have HPr := Lib.hid hpr
      have HLg := Lib.hid hlg
      have HUn := Lib.hid hun
      have HSb1 := Lib.hid hsb1
      have HSb0 := Lib.hid hsb0
      have HUs := Lib.hid hus
      clear hwl hpr hlg hun hsb1 hsb0 hus
      go_upto_region 15 with fail
      obtain ⟨W5, hW5⟩ : ∃ W5, W5 = w4.setCell ⟨B, 1, none⟩ (.pointer (some ⟨T2, 0, none⟩)) := ⟨_, rfl⟩
      obtain ⟨d1, hd1⟩ : ∃ d1 : Wd, d1 = { d with T := T2 } := ⟨_, rfl⟩
      have hp := HWL.out.g.put0 1 (.pointer (some ⟨T2, 0, none⟩)) d1 (by rw [hd1]; rfl) (by rw [hd1]) (by rw [hd1]) (by rw [hd1])
      have HWL5 : Hid (WL w0 W5 B d1 G rs N T2 F M ps4 c4 lim a4 false v4 ms4 false) := Lib.hid (by rw [hW5]; exact HWL.out.wmv hp.2 hp.1)
      rw [← hW5]
      have HD1 := Lib.hid hd1
      have k6 := HWL5.out.g.wb.c6
      have k7 := HWL5.out.g.wb.c7
      rw [hd1] at k6 k7
      clear hW5 hp hd1 c1 z1
      have hcase : (fb = true ∨ (fb = false ∧ d.down = true)) ∨ (fb = false ∧ d.down = false) := by cases fb <;> cases d.down <;> simp
      rcases hcase with hAB | ⟨rfl, hC⟩
      · have HSB : Hid (SafeB (logNorm D4) (allR D4).length sf4) := Lib.hid (HSb1.out (HW1.out (hAB.imp id And.right)))
        rcases hAB with rfl | ⟨rfl, hB⟩
        case' inl =>
          refine Or.elim HU.out ?u0A fun h => Or.elim h ?u1A ?u2A
          case' u0A =>
            rintro ⟨hu, hG1, hs1⟩
            have k7' : W5.cell? ⟨B, 7, none⟩ = some (.int .i64 0) := by
              have h9 := k7
              rw [show ({ d with T := T2 } : Wd).under = 0 from hu] at h9
              exact h9
            have HU0 := Lib.hid hu
            have HG1 := Lib.hid hG1
            have Hs1 := Lib.hid hs1
            clear hu hG1 hs1 k7
            go_wp2_with fail
            go_loopw [101] (fun _ wr => Hid (Kept (fun _ => False) W5 wr)) (fun _ wr => 0)
            case' atStart => exact Lib.hid (Kept.refl _ _)
            have HK5 := hrel
            have q7 := HK5.out.cell k7' (by simp)
            clear k7' k6
            go_wp2_with fail
            go_quiet (fail)
            go_wp2_with fail
            obtain ⟨W7, hW7⟩ : ∃ W7, W7 = wr.drewN nq := ⟨_, rfl⟩
            have hk7 : Kept (fun _ => False) W5 W7 := by rw [hW7]; exact HK5.out.drewN _
            rw [← hW7]
            obtain ⟨d7, rs7, N7, HM⟩ : ∃ d7 rs7 N7, Hid (MM w0 W7 B d7 G1 rs7 N7 T2 F M ps4 c4 lim a4 v4 ms4 s1 (i + 1)) := ⟨d1, rs, N, Lib.hid ⟨by rw [HG1.out]; exact HWL5.out.stay hk7, by rw [Hs1.out, HD1.out], by rw [HD1.out], by rw [HD1.out]; exact HF.out.symm, by rw [HD1.out]; exact HRoom.out, by have := HPG.out.hN; omega, HPG.out.rA⟩⟩
            clear hW7 hk7 q7 HU0 HK5 hrel HG1 Hs1
          case' u1A =>
            rintro ⟨hu, r, hbb, hrl, hbs, hrA, hG1, hs1⟩
            have k7' : W5.cell? ⟨B, 7, none⟩ = some (.int .i64 1) := by
              have h9 := k7
              rw [show ({ d with T := T2 } : Wd).under = 1 from hu] at h9
              exact h9
            have k8 := HWL5.out.g.wb.c8
            rw [HD1.out, show ({ d with T := T2 } : Wd).bb = .slice r.A r.b.length r.c from hbb] at k8
            obtain ⟨sv, hsv⟩ : ∃ sv, sv = d.safe := ⟨_, rfl⟩
            have k4 : W5.cell? ⟨B, 4, none⟩ = some (.int .i64 (sv : Nat)) := by
              have h9 := HWL5.out.g.wb.c4
              rw [HD1.out] at h9
              rw [hsv]; exact h9
            have HPt : Hid (Calls Tryz.prog 32 #[.pointer (some ⟨B, 0, none⟩), .slice r.A r.b.length r.c] W5 (WPutPost w0 W5 B N d1 G rs r)) := Lib.hid (wPut_any HWL5.out.g HWL5.out.kw.size HPG.out.sm.cont hbs hrA hrl (by have := HPG.out.sm.few; omega) (by have := HPG.out.hN; omega) (by have := HPG.out.sm.nx; omega) fun p hp => by have := (HPG.out.sm.one hp).2.2; omega)
            have HU0 := Lib.hid hu
            have HG1 := Lib.hid hG1
            have Hs1 := Lib.hid hs1
            have HrA := Lib.hid hrA
            have Hsv := Lib.hid hsv
            clear hu hG1 hs1 k7 hbb hbs hrA hsv
            go_upto_region 19 with (go_at_call 32; refine HPt.out.mono ?_; rintro e w6 ⟨rfl, d6, hg6, hm6, -, hl6⟩; have HW6 := Lib.hid (HWL5.out.wmv hm6 hg6); have HL6 := Lib.hid hl6; have k4' := hg6.wb.c4; have z4' := hg6.wb.fz 4; clear hg6 hm6 hl6)
            clear k7' k8 k4 k6
            go_wp2_with fail
            obtain ⟨W7, hW7⟩ : ∃ W7, W7 = w6.setCell ⟨B, 4, none⟩ (.int .i64 (sv : Nat)) := ⟨_, rfl⟩
            obtain ⟨d8, hd8⟩ : ∃ d8 : Wd, d8 = { d6 with safe := sv } := ⟨_, rfl⟩
            have hp := HW6.out.g.put0 4 (.int .i64 (sv : Nat)) d8 (by rw [hd8]; rfl) (by rw [hd8]) (by rw [hd8]) (by rw [hd8])
            have HM8 : Hid (MM w0 W7 B d8 G1 (rs ++ [r]) (N + 1) T2 F M ps4 c4 lim a4 v4 ms4 s1 (i + 1)) := Lib.hid ⟨by rw [hW7, HG1.out]; exact HW6.out.wmv hp.2 hp.1, by rw [hd8, Hs1.out]; exact Hsv.out, by rw [hd8]; exact HL6.out.T.trans (by rw [HD1.out]), by rw [hd8]; exact HL6.out.F.trans (by rw [HD1.out]; exact HF.out.symm), by rw [hd8]; exact fun e => HRoom.out (by rw [← e]; exact ((HL6.out.room).trans (by rw [HD1.out])).symm), by have := HPG.out.hN; omega, fun x hx => by
              rcases List.mem_append.1 hx with hx | hx
              · exact HPG.out.rA x hx
              · rw [List.mem_singleton.1 hx]; exact HrA.out⟩
            rw [← hW7]
            have k7' : W7.cell? ⟨B, 7, none⟩ = some (.int .i64 1) := by
              have h9 := HM8.out.wl.g.wb.c7
              rw [hd8, show ({ d6 with safe := sv } : Wd).under = 1 from HL6.out.under.trans (by rw [HD1.out]; exact HU0.out)] at h9
              exact h9
            clear hW7 hp hd8 k4' z4' HW6 HL6
            go_wp2_with fail
            go_loopw [101] (fun _ wr => Hid (Kept (fun _ => False) W7 wr)) (fun _ wr => 0)
            case' atStart => exact Lib.hid (Kept.refl _ _)
            have HK5 := hrel
            have q7 := HK5.out.cell k7' (by simp)
            clear k7'
            go_wp2_with fail
            go_quiet (fail)
            go_wp2_with fail
            obtain ⟨W9, hW9⟩ : ∃ W9, W9 = wr.drewN nq := ⟨_, rfl⟩
            have hk9 : Kept (fun _ => False) W7 W9 := by rw [hW9]; exact HK5.out.drewN _
            rw [← hW9]
            have HM9 := Lib.hid (HM8.out.stay hk9)
            clear hW9 hk9 q7 HU0 HK5 hrel HG1 Hs1 HM8 HrA Hsv
            obtain ⟨W7, d7, rs7, N7, hW7, HM⟩ : ∃ W7 d7 rs7 N7, W7 = W9 ∧ Hid (MM w0 W7 B d7 G1 rs7 N7 T2 F M ps4 c4 lim a4 v4 ms4 s1 (i + 1)) := ⟨W9, _, _, _, rfl, HM9⟩
            rw [← hW7]
            clear hW7 HM9
          case' u2A =>
            rintro ⟨hu, j, hjG, hG1, hs1⟩
            have HDI0 : Hid (DI w0 W5 B d1 G rs N T2 F M ps4 c4 lim a4 v4 ms4 0) := Lib.hid (DI.zero HWL5.out)
            have HU0 : Hid (d1.under = 2) := Lib.hid (by rw [HD1.out]; exact hu)
            have HG1 := Lib.hid hG1
            have Hs1 : Hid (s1 = d1.safe - (allR (G.take j)).length) := Lib.hid (by rw [hs1, HD1.out])
            have HjG := Lib.hid hjG
            obtain ⟨f1, hf1⟩ : ∃ f1, f1 = fstP G1 := ⟨_, rfl⟩
            have Hf1 := Lib.hid hf1
            have hf9 : f1 ≤ 60 := by rw [hf1]; have := nxtP_eq H1.out.cont; have := H1.out.nx; omega
            have hj9 : j ≤ 61 := by have := HPG.out.sm.few; omega
            have k7' : W5.cell? ⟨B, 7, none⟩ = some (.int .i64 2) := by
              have h9 := k7
              rw [show ({ d with T := T2 } : Wd).under = 2 from hu] at h9
              exact h9
            clear hu hG1 hs1 k7 hjG hf1
            go_wp2_with fail
            clear k7' k6
            go_loopw [101] (fun _ wr => ∃ k, k ≤ j ∧ Hid (DI w0 wr B d1 G rs N T2 F M ps4 c4 lim a4 v4 ms4 k)) (fun _ wr => segN B wr)
            case' atStart => exact ⟨0, Nat.zero_le _, HDI0⟩
            obtain ⟨k, hkj, hDI⟩ := hrel
            obtain ⟨dk, hwk, hsk, hlk⟩ := hDI.out.ex
            have q7 : wr.cell? ⟨B, 7, none⟩ = some (.int .i64 2) := by
              have h9 := hwk.g.wb.c7
              rw [hlk.under, HU0.out] at h9
              exact h9
            obtain ⟨A5, k5, hv5, -, -, hlc5, -⟩ := hwk.g.sv.form
            have q5 := hwk.g.wb.c5
            rw [hv5] at q5
            obtain ⟨n5, hn5⟩ : ∃ n5, n5 = (G.drop k).length := ⟨_, rfl⟩
            rw [← hn5] at q5
            obtain ⟨fk, hfk⟩ : ∃ fk, fk = dk.first := ⟨_, rfl⟩
            have q2 := hwk.g.wb.c2
            rw [← hfk] at q2
            have hfe : fk = fstP (G.drop k) := by rw [hfk]; exact hwk.g.fst
            have hne : n5 = G.length - k := by rw [hn5, List.length_drop]
            have hSeg : segN B wr = n5 := by unfold segN; rw [q5]
            have HSeg := Lib.hid hSeg
            have HWk := Lib.hid hwk
            have HSk := Lib.hid hsk
            have HLk := Lib.hid hlk
            have HFi : Hid (∀ a, Calls Tryz.prog 48 #[.pointer (some ⟨T2, 0, none⟩)] (wr.drewN a) fun e w' => e = .returned (.int .u64 (f1 : Nat)) ∧ ∃ m, w' = (wr.drewN a).drewN m) := Lib.hid fun a => by
              have h9 := slFirst_any ((hwk.stay ((Kept.refl (fun _ => False) wr).drewN a)).l.lb) ((hwk.stay ((Kept.refl (fun _ => False) wr).drewN a)).l.row)
              rw [HPr.out, HUn.out.fstN, ← Hf1.out] at h9
              refine h9.mono ?_
              rintro e w' ⟨rfl, rfl⟩
              exact ⟨rfl, 0, rfl⟩
            have hkc : (k < j ∧ (1 : Int) < (n5 : Int) ∧ 1 < n5 ∧ (fk : Int) < (f1 : Int) ∧ fk < f1) ∨ (Hid (k = j) ∧ ¬ (1 : Int) < (n5 : Int) ∧ ¬ 1 < n5) ∨ (Hid (k = j) ∧ (1 : Int) < (n5 : Int) ∧ 1 < n5 ∧ Hid (fk = f1)) := by
              have hjG := HjG.out
              rcases Nat.lt_or_ge k j with h9 | h9
              · have h8 := Cont.fst_lt HPG.out.sm.cont h9 hjG
                rw [← hfe, ← HG1.out, ← Hf1.out] at h8
                exact .inl ⟨h9, by omega, by omega, by omega, h8⟩
              · have h7 : k = j := by omega
                by_cases h6 : 1 < n5
                · exact .inr (.inr ⟨Lib.hid h7, by omega, h6, Lib.hid (by rw [hfe, h7, ← HG1.out, ← Hf1.out])⟩)
                · exact .inr (.inl ⟨Lib.hid h7, by omega, h6⟩)
            have hfk9 : fk ≤ 60 := by
              have h9 := HPG.out.sm.drop k
              have h8 := nxtP_eq h9.cont
              have h7 := h9.nx
              omega
            have HnE := Lib.hid hne
            clear hwk hsk hlk hv5 hn5 hfk hfe hSeg hDI hlc5 hne
            refine Or.elim hkc ?k1A fun h => Or.elim h ?k2A ?k3A
            case k1A =>
              rintro ⟨h1, h2, h3, h4, h5⟩
              clear hkc
              go_wp2_with fail
              go_quiet ((go_at_call 48; exact Calls.quiet_of (HFi.out _)))
              go_wp2_with fail
              obtain ⟨W8, hW8⟩ : ∃ W8, W8 = wr.drewN nq := ⟨_, rfl⟩
              have hk8 : Kept (fun _ => False) wr W8 := by rw [hW8]; exact (Kept.refl _ wr).drewN _
              rw [← hW8]
              have HDr := Lib.hid (drop_call (HWk.out.stay hk8) HSk.out HLk.out HPG.out.sm (by omega) HPG.out.nm (by have := HjG.out; omega) (by have h9 := HPG.out.sf; have h8 := HWL5.out.g.len; have h7 := nxtP_eq HPG.out.sm.cont; have h6 := HPG.out.sm.nx; rw [HD1.out]; show d.safe ≤ 1000; omega) HPG.out.rA)
              clear hW8 hk8 q7 q5 q2
              go_wp2_with (go_at_call 26; refine HDr.out.mono ?_; rintro e w9 ⟨rfl, hdi⟩; have HDI9 := Lib.hid hdi; clear hdi)
              have HSeg9 : Hid (segN B w9 = n5 - 1) := Lib.hid (by
                obtain ⟨dq, hwq, -, -⟩ := HDI9.out.ex
                obtain ⟨A9, k9, hv9, -⟩ := hwq.g.sv.form
                have h9 := hwq.g.wb.c5
                rw [hv9] at h9
                unfold segN
                rw [h9]
                show (G.drop (k + 1)).length = n5 - 1
                rw [List.length_drop, HnE.out]; omega)
              go_roundw
              case rel => exact ⟨k + 1, h1, HDI9⟩
              case measure => rw [HSeg.out, HSeg9.out]; omega
            case' k2A =>
              rintro ⟨h1, h2, h3⟩
              have h3 := Lib.hid h3
              clear hkc h q2
              go_wp2_with fail
              clear h2
              have h2 : ¬ (1 : Int) < (n5 : Int) := by have := h3.out; omega
              go_quiet (fail)
            case' k3A =>
              rintro ⟨h1, h2, h3, h4⟩
              have h5 : ¬ (fk : Int) < (f1 : Int) := by have := h4.out; omega
              have h6 : ¬ fk < f1 := by have := h4.out; omega
              have h7 := Lib.hid h6
              clear hkc h h4
              go_wp2_with fail
              clear h5
              have h5 : ¬ (fk : Int) < (f1 : Int) := by have := h7.out; omega
              go_quiet ((go_at_call 48; exact Calls.quiet_of (HFi.out _)))
            all_goals
              go_wp2_with fail
              obtain ⟨W7, hW7⟩ : ∃ W7, W7 = wr.drewN nq := ⟨_, rfl⟩
              have hk7 : Kept (fun _ => False) wr W7 := by rw [hW7]; exact (Kept.refl _ wr).drewN _
              rw [← hW7]
              obtain ⟨d7, rs7, N7, HM⟩ : ∃ d7 rs7 N7, Hid (MM w0 W7 B d7 G1 rs7 N7 T2 F M ps4 c4 lim a4 v4 ms4 s1 (i + 1)) := ⟨dk, _, N, Lib.hid ⟨by rw [HG1.out, ← h1.out]; exact HWk.out.stay hk7, by rw [HSk.out, Hs1.out, h1.out], HLk.out.T.trans (by rw [HD1.out]), HLk.out.F.trans (by rw [HD1.out]; exact HF.out.symm), fun e => HRoom.out (by rw [← e]; exact ((HLk.out.room).trans (by rw [HD1.out])).symm), by have := HPG.out.hN; omega, fun x hx => HPG.out.rA x (List.mem_of_mem_drop hx)⟩⟩
              clear hW7 hk7 q7 q5 HU0 HG1 Hs1 HSeg HWk HSk HLk HFi h1 h2 h3 HnE HDI0 HjG
        case' inr =>
          rw [show ({ d with T := T2 } : Wd).down = true from hB] at k6
          refine Or.elim HU.out ?u0B fun h => Or.elim h ?u1B ?u2B
          case' u0B =>
            rintro ⟨hu, hG1, hs1⟩
            have k7' : W5.cell? ⟨B, 7, none⟩ = some (.int .i64 0) := by
              have h9 := k7
              rw [show ({ d with T := T2 } : Wd).under = 0 from hu] at h9
              exact h9
            have HU0 := Lib.hid hu
            have HG1 := Lib.hid hG1
            have Hs1 := Lib.hid hs1
            clear hu hG1 hs1 k7
            go_wp2_with fail
            go_loopw [101] (fun _ wr => Hid (Kept (fun _ => False) W5 wr)) (fun _ wr => 0)
            case' atStart => exact Lib.hid (Kept.refl _ _)
            have HK5 := hrel
            have q7 := HK5.out.cell k7' (by simp)
            clear k7' k6
            go_wp2_with fail
            go_quiet (fail)
            go_wp2_with fail
            obtain ⟨W7, hW7⟩ : ∃ W7, W7 = wr.drewN nq := ⟨_, rfl⟩
            have hk7 : Kept (fun _ => False) W5 W7 := by rw [hW7]; exact HK5.out.drewN _
            rw [← hW7]
            obtain ⟨d7, rs7, N7, HM⟩ : ∃ d7 rs7 N7, Hid (MM w0 W7 B d7 G1 rs7 N7 T2 F M ps4 c4 lim a4 v4 ms4 s1 (i + 1)) := ⟨d1, rs, N, Lib.hid ⟨by rw [HG1.out]; exact HWL5.out.stay hk7, by rw [Hs1.out, HD1.out], by rw [HD1.out], by rw [HD1.out]; exact HF.out.symm, by rw [HD1.out]; exact HRoom.out, by have := HPG.out.hN; omega, HPG.out.rA⟩⟩
            clear hW7 hk7 q7 HU0 HK5 hrel HG1 Hs1
          case' u1B =>
            rintro ⟨hu, r, hbb, hrl, hbs, hrA, hG1, hs1⟩
            have k7' : W5.cell? ⟨B, 7, none⟩ = some (.int .i64 1) := by
              have h9 := k7
              rw [show ({ d with T := T2 } : Wd).under = 1 from hu] at h9
              exact h9
            have k8 := HWL5.out.g.wb.c8
            rw [HD1.out, show ({ d with T := T2 } : Wd).bb = .slice r.A r.b.length r.c from hbb] at k8
            obtain ⟨sv, hsv⟩ : ∃ sv, sv = d.safe := ⟨_, rfl⟩
            have k4 : W5.cell? ⟨B, 4, none⟩ = some (.int .i64 (sv : Nat)) := by
              have h9 := HWL5.out.g.wb.c4
              rw [HD1.out] at h9
              rw [hsv]; exact h9
            have HPt : Hid (Calls Tryz.prog 32 #[.pointer (some ⟨B, 0, none⟩), .slice r.A r.b.length r.c] W5 (WPutPost w0 W5 B N d1 G rs r)) := Lib.hid (wPut_any HWL5.out.g HWL5.out.kw.size HPG.out.sm.cont hbs hrA hrl (by have := HPG.out.sm.few; omega) (by have := HPG.out.hN; omega) (by have := HPG.out.sm.nx; omega) fun p hp => by have := (HPG.out.sm.one hp).2.2; omega)
            have HU0 := Lib.hid hu
            have HG1 := Lib.hid hG1
            have Hs1 := Lib.hid hs1
            have HrA := Lib.hid hrA
            have Hsv := Lib.hid hsv
            clear hu hG1 hs1 k7 hbb hbs hrA hsv
            go_upto_region 19 with (go_at_call 32; refine HPt.out.mono ?_; rintro e w6 ⟨rfl, d6, hg6, hm6, -, hl6⟩; have HW6 := Lib.hid (HWL5.out.wmv hm6 hg6); have HL6 := Lib.hid hl6; have k4' := hg6.wb.c4; have z4' := hg6.wb.fz 4; clear hg6 hm6 hl6)
            clear k7' k8 k4 k6
            go_wp2_with fail
            obtain ⟨W7, hW7⟩ : ∃ W7, W7 = w6.setCell ⟨B, 4, none⟩ (.int .i64 (sv : Nat)) := ⟨_, rfl⟩
            obtain ⟨d8, hd8⟩ : ∃ d8 : Wd, d8 = { d6 with safe := sv } := ⟨_, rfl⟩
            have hp := HW6.out.g.put0 4 (.int .i64 (sv : Nat)) d8 (by rw [hd8]; rfl) (by rw [hd8]) (by rw [hd8]) (by rw [hd8])
            have HM8 : Hid (MM w0 W7 B d8 G1 (rs ++ [r]) (N + 1) T2 F M ps4 c4 lim a4 v4 ms4 s1 (i + 1)) := Lib.hid ⟨by rw [hW7, HG1.out]; exact HW6.out.wmv hp.2 hp.1, by rw [hd8, Hs1.out]; exact Hsv.out, by rw [hd8]; exact HL6.out.T.trans (by rw [HD1.out]), by rw [hd8]; exact HL6.out.F.trans (by rw [HD1.out]; exact HF.out.symm), by rw [hd8]; exact fun e => HRoom.out (by rw [← e]; exact ((HL6.out.room).trans (by rw [HD1.out])).symm), by have := HPG.out.hN; omega, fun x hx => by
              rcases List.mem_append.1 hx with hx | hx
              · exact HPG.out.rA x hx
              · rw [List.mem_singleton.1 hx]; exact HrA.out⟩
            rw [← hW7]
            have k7' : W7.cell? ⟨B, 7, none⟩ = some (.int .i64 1) := by
              have h9 := HM8.out.wl.g.wb.c7
              rw [hd8, show ({ d6 with safe := sv } : Wd).under = 1 from HL6.out.under.trans (by rw [HD1.out]; exact HU0.out)] at h9
              exact h9
            clear hW7 hp hd8 k4' z4' HW6 HL6
            go_wp2_with fail
            go_loopw [101] (fun _ wr => Hid (Kept (fun _ => False) W7 wr)) (fun _ wr => 0)
            case' atStart => exact Lib.hid (Kept.refl _ _)
            have HK5 := hrel
            have q7 := HK5.out.cell k7' (by simp)
            clear k7'
            go_wp2_with fail
            go_quiet (fail)
            go_wp2_with fail
            obtain ⟨W9, hW9⟩ : ∃ W9, W9 = wr.drewN nq := ⟨_, rfl⟩
            have hk9 : Kept (fun _ => False) W7 W9 := by rw [hW9]; exact HK5.out.drewN _
            rw [← hW9]
            have HM9 := Lib.hid (HM8.out.stay hk9)
            clear hW9 hk9 q7 HU0 HK5 hrel HG1 Hs1 HM8 HrA Hsv
            obtain ⟨W7, d7, rs7, N7, hW7, HM⟩ : ∃ W7 d7 rs7 N7, W7 = W9 ∧ Hid (MM w0 W7 B d7 G1 rs7 N7 T2 F M ps4 c4 lim a4 v4 ms4 s1 (i + 1)) := ⟨W9, _, _, _, rfl, HM9⟩
            rw [← hW7]
            clear hW7 HM9
          case' u2B =>
            rintro ⟨hu, j, hjG, hG1, hs1⟩
            have HDI0 : Hid (DI w0 W5 B d1 G rs N T2 F M ps4 c4 lim a4 v4 ms4 0) := Lib.hid (DI.zero HWL5.out)
            have HU0 : Hid (d1.under = 2) := Lib.hid (by rw [HD1.out]; exact hu)
            have HG1 := Lib.hid hG1
            have Hs1 : Hid (s1 = d1.safe - (allR (G.take j)).length) := Lib.hid (by rw [hs1, HD1.out])
            have HjG := Lib.hid hjG
            obtain ⟨f1, hf1⟩ : ∃ f1, f1 = fstP G1 := ⟨_, rfl⟩
            have Hf1 := Lib.hid hf1
            have hf9 : f1 ≤ 60 := by rw [hf1]; have := nxtP_eq H1.out.cont; have := H1.out.nx; omega
            have hj9 : j ≤ 61 := by have := HPG.out.sm.few; omega
            have k7' : W5.cell? ⟨B, 7, none⟩ = some (.int .i64 2) := by
              have h9 := k7
              rw [show ({ d with T := T2 } : Wd).under = 2 from hu] at h9
              exact h9
            clear hu hG1 hs1 k7 hjG hf1
            go_wp2_with fail
            clear k7' k6
            go_loopw [101] (fun _ wr => ∃ k, k ≤ j ∧ Hid (DI w0 wr B d1 G rs N T2 F M ps4 c4 lim a4 v4 ms4 k)) (fun _ wr => segN B wr)
            case' atStart => exact ⟨0, Nat.zero_le _, HDI0⟩
            obtain ⟨k, hkj, hDI⟩ := hrel
            obtain ⟨dk, hwk, hsk, hlk⟩ := hDI.out.ex
            have q7 : wr.cell? ⟨B, 7, none⟩ = some (.int .i64 2) := by
              have h9 := hwk.g.wb.c7
              rw [hlk.under, HU0.out] at h9
              exact h9
            obtain ⟨A5, k5, hv5, -, -, hlc5, -⟩ := hwk.g.sv.form
            have q5 := hwk.g.wb.c5
            rw [hv5] at q5
            obtain ⟨n5, hn5⟩ : ∃ n5, n5 = (G.drop k).length := ⟨_, rfl⟩
            rw [← hn5] at q5
            obtain ⟨fk, hfk⟩ : ∃ fk, fk = dk.first := ⟨_, rfl⟩
            have q2 := hwk.g.wb.c2
            rw [← hfk] at q2
            have hfe : fk = fstP (G.drop k) := by rw [hfk]; exact hwk.g.fst
            have hne : n5 = G.length - k := by rw [hn5, List.length_drop]
            have hSeg : segN B wr = n5 := by unfold segN; rw [q5]
            have HSeg := Lib.hid hSeg
            have HWk := Lib.hid hwk
            have HSk := Lib.hid hsk
            have HLk := Lib.hid hlk
            have HFi : Hid (∀ a, Calls Tryz.prog 48 #[.pointer (some ⟨T2, 0, none⟩)] (wr.drewN a) fun e w' => e = .returned (.int .u64 (f1 : Nat)) ∧ ∃ m, w' = (wr.drewN a).drewN m) := Lib.hid fun a => by
              have h9 := slFirst_any ((hwk.stay ((Kept.refl (fun _ => False) wr).drewN a)).l.lb) ((hwk.stay ((Kept.refl (fun _ => False) wr).drewN a)).l.row)
              rw [HPr.out, HUn.out.fstN, ← Hf1.out] at h9
              refine h9.mono ?_
              rintro e w' ⟨rfl, rfl⟩
              exact ⟨rfl, 0, rfl⟩
            have hkc : (k < j ∧ (1 : Int) < (n5 : Int) ∧ 1 < n5 ∧ (fk : Int) < (f1 : Int) ∧ fk < f1) ∨ (Hid (k = j) ∧ ¬ (1 : Int) < (n5 : Int) ∧ ¬ 1 < n5) ∨ (Hid (k = j) ∧ (1 : Int) < (n5 : Int) ∧ 1 < n5 ∧ Hid (fk = f1)) := by
              have hjG := HjG.out
              rcases Nat.lt_or_ge k j with h9 | h9
              · have h8 := Cont.fst_lt HPG.out.sm.cont h9 hjG
                rw [← hfe, ← HG1.out, ← Hf1.out] at h8
                exact .inl ⟨h9, by omega, by omega, by omega, h8⟩
              · have h7 : k = j := by omega
                by_cases h6 : 1 < n5
                · exact .inr (.inr ⟨Lib.hid h7, by omega, h6, Lib.hid (by rw [hfe, h7, ← HG1.out, ← Hf1.out])⟩)
                · exact .inr (.inl ⟨Lib.hid h7, by omega, h6⟩)
            have hfk9 : fk ≤ 60 := by
              have h9 := HPG.out.sm.drop k
              have h8 := nxtP_eq h9.cont
              have h7 := h9.nx
              omega
            have HnE := Lib.hid hne
            clear hwk hsk hlk hv5 hn5 hfk hfe hSeg hDI hlc5 hne
            refine Or.elim hkc ?k1B fun h => Or.elim h ?k2B ?k3B
            case k1B =>
              rintro ⟨h1, h2, h3, h4, h5⟩
              clear hkc
              go_wp2_with fail
              go_quiet ((go_at_call 48; exact Calls.quiet_of (HFi.out _)))
              go_wp2_with fail
              obtain ⟨W8, hW8⟩ : ∃ W8, W8 = wr.drewN nq := ⟨_, rfl⟩
              have hk8 : Kept (fun _ => False) wr W8 := by rw [hW8]; exact (Kept.refl _ wr).drewN _
              rw [← hW8]
              have HDr := Lib.hid (drop_call (HWk.out.stay hk8) HSk.out HLk.out HPG.out.sm (by omega) HPG.out.nm (by have := HjG.out; omega) (by have h9 := HPG.out.sf; have h8 := HWL5.out.g.len; have h7 := nxtP_eq HPG.out.sm.cont; have h6 := HPG.out.sm.nx; rw [HD1.out]; show d.safe ≤ 1000; omega) HPG.out.rA)
              clear hW8 hk8 q7 q5 q2
              go_wp2_with (go_at_call 26; refine HDr.out.mono ?_; rintro e w9 ⟨rfl, hdi⟩; have HDI9 := Lib.hid hdi; clear hdi)
              have HSeg9 : Hid (segN B w9 = n5 - 1) := Lib.hid (by
                obtain ⟨dq, hwq, -, -⟩ := HDI9.out.ex
                obtain ⟨A9, k9, hv9, -⟩ := hwq.g.sv.form
                have h9 := hwq.g.wb.c5
                rw [hv9] at h9
                unfold segN
                rw [h9]
                show (G.drop (k + 1)).length = n5 - 1
                rw [List.length_drop, HnE.out]; omega)
              go_roundw
              case rel => exact ⟨k + 1, h1, HDI9⟩
              case measure => rw [HSeg.out, HSeg9.out]; omega
            case' k2B =>
              rintro ⟨h1, h2, h3⟩
              have h3 := Lib.hid h3
              clear hkc h q2
              go_wp2_with fail
              clear h2
              have h2 : ¬ (1 : Int) < (n5 : Int) := by have := h3.out; omega
              go_quiet (fail)
            case' k3B =>
              rintro ⟨h1, h2, h3, h4⟩
              have h5 : ¬ (fk : Int) < (f1 : Int) := by have := h4.out; omega
              have h6 : ¬ fk < f1 := by have := h4.out; omega
              have h7 := Lib.hid h6
              clear hkc h h4
              go_wp2_with fail
              clear h5
              have h5 : ¬ (fk : Int) < (f1 : Int) := by have := h7.out; omega
              go_quiet ((go_at_call 48; exact Calls.quiet_of (HFi.out _)))
            all_goals
              go_wp2_with fail
              obtain ⟨W7, hW7⟩ : ∃ W7, W7 = wr.drewN nq := ⟨_, rfl⟩
              have hk7 : Kept (fun _ => False) wr W7 := by rw [hW7]; exact (Kept.refl _ wr).drewN _
              rw [← hW7]
              obtain ⟨d7, rs7, N7, HM⟩ : ∃ d7 rs7 N7, Hid (MM w0 W7 B d7 G1 rs7 N7 T2 F M ps4 c4 lim a4 v4 ms4 s1 (i + 1)) := ⟨dk, _, N, Lib.hid ⟨by rw [HG1.out, ← h1.out]; exact HWk.out.stay hk7, by rw [HSk.out, Hs1.out, h1.out], HLk.out.T.trans (by rw [HD1.out]), HLk.out.F.trans (by rw [HD1.out]; exact HF.out.symm), fun e => HRoom.out (by rw [← e]; exact ((HLk.out.room).trans (by rw [HD1.out])).symm), by have := HPG.out.hN; omega, fun x hx => HPG.out.rA x (List.mem_of_mem_drop hx)⟩⟩
              clear hW7 hk7 q7 q5 HU0 HG1 Hs1 HSeg HWk HSk HLk HFi h1 h2 h3 HnE HDI0 HjG
        all_goals
          obtain ⟨n, hn⟩ : ∃ n, n = (allR D4).length := ⟨_, rfl⟩
          obtain ⟨f, hf⟩ : ∃ f, f = fstP G1 := ⟨_, rfl⟩
          obtain ⟨nx, hnx⟩ : ∃ nx, nx = f + n := ⟨_, rfl⟩
          obtain ⟨L, hL⟩ : ∃ L, L = rs7.length := ⟨_, rfl⟩
          have hall := HUn.out.all
          have hlen := HM.out.wl.g.len
          have hnx9 := nxtP_eq H1.out.cont
          have hni := H1.out.nx
          rw [← hn] at hall
          rw [← hL] at hlen
          rw [← hf] at hnx9
          have hsn : s1 ≤ n := hall.1
          have hnL : n ≤ L := by omega
          have hfL : f + L ≤ 60 := by omega
          have hfew := (HUn.out.sml H1.out).norm.few
          have hms : ms4.length ≤ 61 := by have := congrArg List.length HPr.out; rw [prts, List.length_map] at this; omega
          have HNq : Hid (∀ W', Kept (fun _ => False) W7 W' → ∀ a, Calls Tryz.prog 18 #[.pointer (some ⟨T2, 0, none⟩)] (W'.drewN a) fun e w' => e = .returned (.int .u64 (nx : Nat)) ∧ ∃ m, w' = (W'.drewN a).drewN m) := Lib.hid fun W' hk a => by
            have h9 := slNext_quiet (HM.out.wl.stay hk).l.lb (HM.out.wl.stay hk).l.row (by omega) (by rw [HPr.out, HUn.out.nxtN, ← hf, ← hn, ← hnx]; omega) a
            rw [HPr.out, HUn.out.nxtN, ← hf, ← hn, ← hnx] at h9
            exact h9
          have HFq : Hid (∀ W', Kept (fun _ => False) W7 W' → ∀ a, Calls Tryz.prog 48 #[.pointer (some ⟨T2, 0, none⟩)] (W'.drewN a) fun e w' => e = .returned (.int .u64 (f : Nat)) ∧ ∃ m, w' = (W'.drewN a).drewN m) := Lib.hid fun W' hk a => by
            have hka := hk.trans' ((Kept.refl (fun _ => False) W').drewN a)
            have h9 := slFirst_any (HM.out.wl.stay hka).l.lb (HM.out.wl.stay hka).l.row
            rw [HPr.out, HUn.out.fstN, ← hf] at h9
            refine h9.mono ?_
            rintro e w' ⟨rfl, rfl⟩
            exact ⟨rfl, 0, rfl⟩
          obtain ⟨A3r, k3r, hrv, -, -, -⟩ := HM.out.wl.g.rv.read
          rw [List.length_map, ← hL] at hrv
          have q2 := HM.out.wl.g.wb.c2
          have q3 := HM.out.wl.g.wb.c3
          have q4 := HM.out.wl.g.wb.c4
          rw [HM.out.wl.g.fst, ← hf] at q2
          rw [hrv] at q3
          rw [HM.out.sf] at q4
          have i1 : IntKind.u64.wrap ((nx : Int) - (f : Int)) = (n : Int) := by rw [IntKind.wrap_u64]; omega
          have i2 : IntKind.i64.wrap ((n : Nat) : Int) = (n : Int) := by rw [IntKind.wrap_i64]; omega
          have HNx := Lib.hid hnx
          have HL7 := Lib.hid hL
          have HN := Lib.hid hn
          have HsnL := Lib.hid (And.intro hsn hnL)
          have HLn := Lib.hid hlen
          have hCs : (logCut G1 n = logNorm D4) := by rw [hn]; exact HUn.out.norm.symm
          have HCs := Lib.hid hCs
          clear hall hlen hnx9 hni hfew hms hrv hnx hL hn hf hCs
          go_quiet ((go_at_call 18; exact Calls.quiet_of (HNq.out _ (Kept.refl _ _) _)))
          go_wp2_with fail
          obtain ⟨W8, hW8⟩ : ∃ W8, W8 = W7.drewN nq := ⟨_, rfl⟩
          have hk8 : Kept (fun _ => False) W7 W8 := by rw [hW8]; exact (Kept.refl _ W7).drewN _
          rw [← hW8]
          have HK8 := Lib.hid hk8
          have q2 := hk8.cell q2 (by simp)
          have q3 := hk8.cell q3 (by simp)
          have q4 := hk8.cell q4 (by simp)
          clear hW8 hk8
          have x1 : ¬ (nx : Int) < (f : Int) := by have := HNx.out; omega
          have x2 : ¬ (L : Int) < (n : Int) := by have := HsnL.out; omega
          have x3 : ¬ (n : Int) < (s1 : Int) := by have := HsnL.out; omega
          go_quiet (first | (go_at_call 48; exact Calls.quiet_of (HFq.out _ HK8.out _)) | (go_at_call 18; exact Calls.quiet_of (HNq.out _ HK8.out _)))
          go_wp2_with fail
          obtain ⟨W9, hW9⟩ : ∃ W9, W9 = W8.drewN nq := ⟨_, rfl⟩
          have hk9 : Kept (fun _ => False) W7 W9 := by rw [hW9]; exact HK8.out.drewN _
          rw [← hW9]
          have HM9 := Lib.hid (HM.out.stay hk9)
          clear hW9 hk9 q2 q3 q4 x1 x2 x3 i1 i2
          have HCt : Hid (Calls Tryz.prog 49 #[.pointer (some ⟨B, 0, none⟩), .int .i64 (n : Nat)] W9 fun e w' => e = .returned (.tuple #[]) ∧ ∃ d', WG w0 w' B d' (logNorm D4) (rs7.take n) N7 ∧ WMv w0 W9 B d7 w' d' ∧ d'.safe = d7.safe ∧ d7.Like d') := Lib.hid (by
            have h9 := wCut_any (n := n) HM9.out.wl.g HM9.out.wl.kw.size H1.out.cont (by rw [← HL7.out]; exact HsnL.out.2) (by have := H1.out.few; omega) (by have := H1.out.nx; omega) (fun r hr => by
              have h8 : r.b ∈ allR G1 := by rw [← HM9.out.wl.g.all]; exact List.mem_map_of_mem hr
              obtain ⟨p, hp, hb⟩ := List.mem_flatMap.1 h8
              exact H1.out.len p hp r.b hb)
            rw [HCs.out] at h9
            exact h9)
          go_upto_region 26 with (go_at_call 49; refine HCt.out.mono ?_; rintro e w10 ⟨rfl, d10, hg10, hm10, hs10, hl10⟩; have HG10 := Lib.hid hg10; have HM10 := Lib.hid hm10; have HL10 := Lib.hid hl10; clear hg10 hm10 hs10 hl10)
          obtain ⟨A9r, k9r, hrv, -, -, -⟩ := HG10.out.rv.read
          have hln : ((rs7.take n).map BV.val).length = n := by rw [List.length_map, List.length_take]; have := HsnL.out.2; have := HL7.out; omega
          rw [hln] at hrv
          have q3 := HG10.out.wb.c3
          rw [hrv] at q3
          have q4 := HG10.out.wb.c4
          have z4 := HG10.out.wb.fz 4
          clear hrv hln
          go_upto_region 27 with fail
          obtain ⟨W11, hW11⟩ : ∃ W11, W11 = w10.setCell ⟨B, 4, none⟩ (.int .i64 (n : Nat)) := ⟨_, rfl⟩
          obtain ⟨d11, hd11⟩ : ∃ d11 : Wd, d11 = { d10 with safe := n } := ⟨_, rfl⟩
          have hp := HG10.out.put0 4 (.int .i64 (n : Nat)) d11 (by rw [hd11]; rfl) (by rw [hd11]) (by rw [hd11]) (by rw [hd11])
          have HE11 : Hid (EE w0 W11 B d11 (logNorm D4) (rs7.take n) N7 T2 F M ps4 c4 lim a4 v4 ms4 sf4 (i + 1)) := Lib.hid (by
            refine ⟨by rw [hW11]; exact (HM9.out.wl.wmv HM10.out HG10.out).wmv hp.2 hp.1, HPr.out, HLg.out, ?_, ⟨((HUn.out.sml H1.out).norm).mono (Nat.le_succ _), logNorm_again _ HUn.out.cont, fun r hr => HM9.out.rA r (List.mem_of_mem_take hr), ?_, HM9.out.hN⟩, ?_, ?_, Nat.le_trans HUs.out (by omega), ?_⟩
            · rw [hd11]
              show SafeB (logNorm D4) n sf4
              rw [HN.out]; exact HSB.out
            · rw [hd11, List.length_take]
              show n ≤ _
              have := HsnL.out.2; have := HL7.out; omega
            · rw [hd11]; exact HL10.out.T.trans HM9.out.eT
            · rw [hd11]; exact HL10.out.F.trans HM9.out.eF
            · rw [hd11]; exact fun e => HM9.out.room (by rw [← e]; exact HL10.out.room.symm))
          rw [← hW11]
          clear hW11 hd11 hp q3 q4 z4 HG10 HM10 HL10 HCt HM9 HNq HFq HK8 HNx HL7 HN HsnL HLn HCs
          obtain ⟨WE, dE, GE, rsE, NE, hWE, HEE⟩ : ∃ WE dE GE rsE NE, WE = W11 ∧ Hid (EE w0 WE B dE GE rsE NE T2 F M ps4 c4 lim a4 v4 ms4 sf4 (i + 1)) := ⟨W11, _, _, _, _, rfl, HE11⟩
          rw [← hWE]
          clear hWE HE11
        all_goals
          have e7 := HEE.out.wl.g.wb.c7
          have g7 := HEE.out.wl.g.wb.fz 7
          have HE12 := Lib.hid (HEE.out.put 7 (.int .i64 0) (d2 := { dE with under := 0 }) rfl rfl rfl rfl rfl rfl rfl rfl)
          have e6 := HE12.out.wl.g.wb.c6
          have g6 := HE12.out.wl.g.wb.fz 6
          have HE13 := Lib.hid (HE12.out.put 6 (.bool false) (d2 := { dE with under := 0, down := false }) rfl rfl rfl rfl rfl rfl rfl rfl)
          go_upto_region 28 with fail
          obtain ⟨W13, hW13⟩ : ∃ W13, W13 = (WE.setCell ⟨B, 7, none⟩ (.int .i64 0)).setCell ⟨B, 6, none⟩ (.bool false) := ⟨_, rfl⟩
          rw [← hW13] at HE13 ⊢
          have HAl : Hid (Calls Tryz.prog 27 #[.pointer (some ⟨B, 0, none⟩)] W13 fun e w' => e = .returned (.bool true) ∧ Kept (fun _ => False) W13 w') := Lib.hid (by
            have h9 := HE13.out
            refine wAlike_any h9.wl.g (by rw [h9.eT, h9.eF]; exact h9.wl.l) h9.pr (h9.pg.sm.mono (by omega)) h9.wl.kw h9.pg.rA)
          clear hW13 e7 g7 e6 g6 HE12
          go_wp2_with (go_at_call 27; refine HAl.out.mono ?_; rintro e w14 ⟨rfl, hk14⟩; have HK14 := Lib.hid hk14; clear hk14)
          go_ret
          have h9 := HE13.out
          exact ⟨rfl, _, _, _, _, PW.of (h9.wl.stay HK14.out) h9.eT h9.eF rfl rfl h9.pr h9.lg h9.sb h9.pg h9.us h9.room⟩
      · rw [show ({ d with T := T2 } : Wd).down = false from hC] at k6
        go_upto_region 27 with fail
        have HEE : Hid (EE w0 W5 B d1 G rs N T2 F M ps4 c4 lim a4 v4 ms4 sf4 (i + 1)) := Lib.hid (by
          obtain ⟨hn1, -, hs1⟩ := HSb0.out (HW2.out ⟨rfl, hC⟩)
          obtain ⟨hG1, hs1e⟩ : G1 = G ∧ s1 = d.safe := by
            have hu := HUp.out hC
            rcases HU.out with ⟨-, h1, h2⟩ | ⟨h1, -⟩ | ⟨h1, -⟩
            · exact ⟨h1, h2⟩
            · omega
            · omega
          have hl := HLg.out
          have hp := HPr.out
          rw [hn1, hG1] at hl hp
          rw [hG1, hs1e] at hs1
          exact ⟨HWL5.out, hp, hl, by rw [HD1.out]; exact hs1, ⟨HPG.out.sm.mono (Nat.le_succ _), HPG.out.nm, HPG.out.rA, by rw [HD1.out]; exact HPG.out.sf, by have := HPG.out.hN; omega⟩, by rw [HD1.out], by rw [HD1.out]; exact HF.out.symm, Nat.le_trans HUs.out (by omega), by rw [HD1.out]; exact HRoom.out⟩)
        obtain ⟨WE, dE, GE, rsE, NE, hWE, HEE⟩ : ∃ WE dE GE rsE NE, WE = W5 ∧ Hid (EE w0 WE B dE GE rsE NE T2 F M ps4 c4 lim a4 v4 ms4 sf4 (i + 1)) := ⟨W5, _, _, _, _, rfl, HEE⟩
        rw [← hWE]
        clear hWE k6 k7
        have e7 := HEE.out.wl.g.wb.c7
        have g7 := HEE.out.wl.g.wb.fz 7
        have HE12 := Lib.hid (HEE.out.put 7 (.int .i64 0) (d2 := { dE with under := 0 }) rfl rfl rfl rfl rfl rfl rfl rfl)
        have e6 := HE12.out.wl.g.wb.c6
        have g6 := HE12.out.wl.g.wb.fz 6
        have HE13 := Lib.hid (HE12.out.put 6 (.bool false) (d2 := { dE with under := 0, down := false }) rfl rfl rfl rfl rfl rfl rfl rfl)
        go_upto_region 28 with fail
        obtain ⟨W13, hW13⟩ : ∃ W13, W13 = (WE.setCell ⟨B, 7, none⟩ (.int .i64 0)).setCell ⟨B, 6, none⟩ (.bool false) := ⟨_, rfl⟩
        rw [← hW13] at HE13 ⊢
        have HAl : Hid (Calls Tryz.prog 27 #[.pointer (some ⟨B, 0, none⟩)] W13 fun e w' => e = .returned (.bool true) ∧ Kept (fun _ => False) W13 w') := Lib.hid (by
          have h9 := HE13.out
          refine wAlike_any h9.wl.g (by rw [h9.eT, h9.eF]; exact h9.wl.l) h9.pr (h9.pg.sm.mono (by omega)) h9.wl.kw h9.pg.rA)
        clear hW13 e7 g7 e6 g6 HE12
        go_wp2_with (go_at_call 27; refine HAl.out.mono ?_; rintro e w14 ⟨rfl, hk14⟩; have HK14 := Lib.hid hk14; clear hk14)
        go_ret
        have h9 := HE13.out
        exact ⟨rfl, _, _, _, _, PW.of (h9.wl.stay HK14.out) h9.eT h9.eF rfl rfl h9.pr h9.lg h9.sb h9.pg h9.us h9.room⟩
end
end Go.Proofs.YtibalgfejfjndaaGreatDoor
end
