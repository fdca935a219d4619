import Derived.Test.YtibalgfejfjndaaGreatDoorMbb
/-! SeglogPlays' world: a step, its bytes being long. -/
section
set_option linter.unusedVariables false
set_option linter.unusedSimpArgs false
namespace Go.Proofs.YtibalgfejfjndaaGreatDoor
open Go.RowKit

set_option maxRecDepth 100000 in
set_option maxHeartbeats 40000000 in
theorem step_long {w0 W : World} {B N i n c n3 c3 : Nat} {d : Wd} {G : List Prt} {rs : List BV} {kd an : Int} {A A3 : Option Addr} {xs : List UInt8} (h : PW w0 W B d G rs N i) (hi : i ≤ 59) (hbs : Bs w0 A xs) (hA : A = none → c = 0) (hn : n = xs.length) (hnc : n ≤ c) (han : an ≤ 9223372036854775807) (hks : ∀ j, j < n3 → ∃ ad z, A3 = some ad ∧ w0.cell? (ad.add j) = some (.int .i64 z)) (hsz : 900 < n) :
    Calls Tryz.prog 7 #[.pointer (some ⟨B, 0, none⟩), .agg #[.int .i64 kd, .int .i64 an, .slice A n c, .slice A3 n3 c3]] W (StepPost w0 B i) := by
  have HPW := Lib.hid h
  have HKs := Lib.hid hks
  obtain ⟨D, hD⟩ : ∃ D, D = W.heap.size := ⟨_, rfl⟩
  obtain ⟨W1, hW1⟩ : ∃ W1, W1 = W.alloc (.cells #[.int .i64 kd, .int .i64 an, .slice A n c, .slice A3 n3 c3] 40) := ⟨_, rfl⟩
  have hk1 : Kept (fun _ => False) W W1 := by rw [hW1]; exact (Kept.refl _ W).alloc _
  have hop : Op21 W1 D kd an A n c A3 n3 c3 := by rw [hW1, hD]; exact heap_alloc_new W _
  have HOp : Hid (∀ W', Kept (fun k => k < D) W1 W' → W'.cell? ⟨D, 0, none⟩ = some (.int .i64 kd) ∧ W'.cell? ⟨D, 1, none⟩ = some (.int .i64 an) ∧ W'.cell? ⟨D, 2, none⟩ = some (.slice A n c) ∧ W'.cell? ⟨D, 3, none⟩ = some (.slice A3 n3 c3)) := Lib.hid fun W' hk => Op21.cells (show Op21 W' D kd an A n c A3 n3 c3 from hk.heap hop (by omega))
  have HP1 := Lib.hid (h.stay hk1)
  have HK1 := Lib.hid hk1
  have HD := Lib.hid hD
  have HFT : Hid (d.F < D ∧ d.T < D) := Lib.hid (by rw [hD]; exact h.ltF)
  obtain ⟨bn, hbn⟩ : ∃ bn, bn = 900 := ⟨_, rfl⟩
  have HBn : Hid (bn = (xs.take 900).length) := Lib.hid (by rw [List.length_take]; omega)
  have hs0 : (900 : Int) < (n : Int) := by omega
  have hsl : ∀ W, (Instr.slice 30 (.slice A n c) none (some (.int .i64 900)) none).run Tryz.prog W = .ok (.slice A bn c) W := fun W => by rw [hbn]; exact slice_toB W A n 900 c (by omega)
  clear hn hnc hbn
  have HBs : Hid (Bs w0 A (xs.take 900)) := Lib.hid (Bs.pre hbs)
  have HA := Lib.hid hA
  have o1 := (HOp.out W1 (Kept.refl _ _)).1
  have o2 := (HOp.out W1 (Kept.refl _ _)).2.1
  have o3 := (HOp.out W1 (Kept.refl _ _)).2.2.1
  have o4 := (HOp.out W1 (Kept.refl _ _)).2.2.2
  obtain ⟨F, hF⟩ : ∃ F, F = d.F := ⟨_, rfl⟩
  obtain ⟨T, hT⟩ : ∃ T, T = d.T := ⟨_, rfl⟩
  have HF := Lib.hid hF
  have HT := Lib.hid hT
  have HCs : Hid (∀ W', WG w0 W' B d G rs N → W'.cell? ⟨B, 0, none⟩ = some (.pointer (some ⟨F, 0, none⟩)) ∧ W'.cell? ⟨B, 1, none⟩ = some (.pointer (some ⟨T, 0, none⟩))) := Lib.hid fun W' h' => ⟨by rw [hF]; exact h'.wb.c0, by rw [hT]; exact h'.wb.c1⟩
  have cF := (HCs.out W1 HP1.out.g).1
  have cT := (HCs.out W1 HP1.out.g).2
  clear h hbs hA hks hD hop hk1 hF hT
  go_enter Tryz.func7, Tryz.ntmps7
  go_upto_region 1 with fail
  rw [← hW1, ← HD.out]
  clear hW1
  go_upto_region 5 with fail
  rcases kind_c21 kd with rfl | rfl | rfl | rfl | rfl | rfl | ⟨q1, q2, q3, q4, q5, q6⟩
  · -- arm
    have HAr : Hid (∀ W', Kept (fun _ => False) W1 W' → Calls Tryz.prog 19 #[.pointer (some ⟨F, 0, none⟩), .int .i64 an] W' fun e w' => e = .returned (.tuple #[]) ∧ PW w0 w' B d G rs N i ∧ Kept (fun k => k < D) W1 w') := Lib.hid fun W' hk => by
      have h9 := (HP1.out.stay hk).armed an han
      rw [HF.out]
      refine h9.mono ?_
      rintro e w' ⟨he, hp, hk2⟩
      exact ⟨he, hp, (hk.mono fun _ _ e => False.elim e).trans' (hk2.mono fun k _ e => by have := HFT.out.1; omega)⟩
    go_upto_region 6 with fail
    go_region_held3 (fun W => W.cell? ⟨B, 0, none⟩ = some (.pointer (some ⟨F, 0, none⟩)) ∧ W.cell? ⟨D, 1, none⟩ = some (.int .i64 an)) (first | assumption | simp [*]) (first
      | (go_at_call 19; refine (HAr.out _ (by first | exact Kept.refl _ _ | exact (Kept.refl _ _).drew)).mono ?_; rintro e w2 ⟨rfl, hp2, hk2⟩; have HP2 := Lib.hid hp2; have s2 : w2.cell? ⟨B, 0, none⟩ = some (.pointer (some ⟨F, 0, none⟩)) ∧ w2.cell? ⟨D, 1, none⟩ = some (.int .i64 an) := ⟨(HCs.out _ hp2.g).1, (HOp.out _ hk2).2.1⟩; clear hp2 hk2))
    go_wp2_with fail
    go_ret
    exact ⟨rfl, _, _, _, _, HP2.out.up (Nat.le_succ _)⟩
  · -- crash
    obtain ⟨M, lim, G1, s1, arm, hsf, hU, hG1, hrm, hun⟩ := HPW.out.sfs
    have HU := Lib.hid hU
    have HG1 := Lib.hid hG1
    have HRm := Lib.hid hrm
    have HUn := Lib.hid hun
    have HCr : Hid (∀ W', Kept (fun _ => False) W1 W' → Calls Tryz.prog 20 #[.pointer (some ⟨F, 0, none⟩), .slice A3 n3 c3] W' fun e w' => e = .returned (.tuple #[]) ∧ SF w0 w' B d G rs N d.F M lim G1 s1 (1000 * i) true arm true ∧ Kept (fun k => k < D) W1 w') := Lib.hid fun W' hk => by
      have h9 := hsf.fallenK (nk := n3) (c := c3) (A := A3) hG1 (by omega) (HK1.out.trans' hk) HKs.out
      rw [← HD.out] at h9
      have h8 := HF.out
      rw [← h8] at h9 ⊢
      refine h9.mono ?_
      rintro e w' ⟨he, hp, hk2⟩
      exact ⟨he, hp, (hk.mono fun _ _ e => False.elim e).trans' hk2⟩
    clear hsf hU hG1 hrm hun
    go_upto_region 9 with fail
    go_region_held3 (fun W => W.cell? ⟨B, 0, none⟩ = some (.pointer (some ⟨F, 0, none⟩)) ∧ W.cell? ⟨D, 3, none⟩ = some (.slice A3 n3 c3)) (first | assumption | simp [*]) (first
      | (go_at_call 20; refine (HCr.out _ (by first | exact Kept.refl _ _ | exact (Kept.refl _ _).drew)).mono ?_; rintro e w2 ⟨rfl, hs2, hk2⟩; have HS2 := Lib.hid hs2; have p2 := (HOp.out _ hk2).2.1; have p4 := (HOp.out _ hk2).2.2.2; have s2 : w2.cell? ⟨B, 0, none⟩ = some (.pointer (some ⟨F, 0, none⟩)) ∧ w2.cell? ⟨D, 3, none⟩ = some (.slice A3 n3 c3) := ⟨(HCs.out _ hs2.wf0).1, p4⟩; clear hs2 hk2))
    have HOn : Hid (Calls Tryz.prog 21 #[.pointer (some ⟨B, 0, none⟩), .bool true, .int .i64 an, .slice A3 n3 c3] w2 fun e w' => e = .returned (.bool true) ∧ ∃ d' G' rs' N', PW w0 w' B d' G' rs' N' (i + 1)) := Lib.hid (wOpen_any HS2.out HU.out HPW.out.pg HG1.out (by omega) HRm.out HUn.out (.inl ⟨rfl, .inl rfl⟩) han HKs.out)
    go_wp2_with (go_at_call 21; refine HOn.out.mono ?_; rintro e w3 ⟨rfl, hp3⟩; have HP3 := Lib.hid hp3; clear hp3)
    go_ret
    exact ⟨rfl, HP3.out⟩
  · -- open
    obtain ⟨M, lim, G1, s1, arm, hsf, hU, hG1, hrm, hun⟩ := HP1.out.sfs
    have hcs : (d.down = true ∧ ((false : Bool) = true ∨ d.down = true)) ∨ (d.down = false ∧ (false : Bool) = false ∧ d.down = false ∧ (false : Bool) = false) := by
      cases d.down
      · exact .inr ⟨rfl, rfl, rfl, rfl⟩
      · exact .inl ⟨rfl, .inr rfl⟩
    have HOn : Hid (Calls Tryz.prog 21 #[.pointer (some ⟨B, 0, none⟩), .bool false, .int .i64 an, .slice A3 n3 c3] W1 fun e w' => e = .returned (.bool true) ∧ ∃ d' G' rs' N', PW w0 w' B d' G' rs' N' (i + 1)) := Lib.hid (wOpen_any hsf hU HPW.out.pg hG1 (by omega) hrm hun hcs han HKs.out)
    clear hsf hU hG1 hrm hun hcs
    go_wp2_with (go_at_call 21; refine HOn.out.mono ?_; rintro e w3 ⟨rfl, hp3⟩; have HP3 := Lib.hid hp3; clear hp3)
    go_ret
    exact ⟨rfl, HP3.out⟩
  · -- limit
    have HLi : Hid (∀ W', Kept (fun _ => False) W1 W' → Calls Tryz.prog 22 #[.pointer (some ⟨F, 0, none⟩), .int .i64 an] W' fun e w' => e = .returned (.tuple #[]) ∧ WG w0 w' B d G rs N ∧ PW w0 (w'.setCell ⟨B, 9, none⟩ (.bool false)) B { d with room := false } G rs N i ∧ Kept (fun k => k < D) W1 w') := Lib.hid fun W' hk => by
      have h9 := (HP1.out.stay hk).limited an
      rw [HF.out]
      refine h9.mono ?_
      rintro e w' ⟨he, hg, hp, hk2⟩
      exact ⟨he, hg, hp, (hk.mono fun _ _ e => False.elim e).trans' (hk2.mono fun k _ e => by have := HFT.out.1; omega)⟩
    go_upto_region 14 with fail
    go_region_held3 (fun W => W.cell? ⟨B, 0, none⟩ = some (.pointer (some ⟨F, 0, none⟩)) ∧ W.cell? ⟨D, 1, none⟩ = some (.int .i64 an)) (first | assumption | simp [*]) (first
      | (go_at_call 22; refine (HLi.out _ (by first | exact Kept.refl _ _ | exact (Kept.refl _ _).drew)).mono ?_; rintro e w2 ⟨rfl, hg2, hp2, hk2⟩; have HP2 := Lib.hid hp2; have HG2 := Lib.hid hg2; have s2 : w2.cell? ⟨B, 0, none⟩ = some (.pointer (some ⟨F, 0, none⟩)) ∧ w2.cell? ⟨D, 1, none⟩ = some (.int .i64 an) := ⟨(HCs.out _ hg2).1, (HOp.out _ hk2).2.1⟩; clear hp2 hk2 hg2))
    have e9 := HG2.out.wb.c9
    have z9 := HG2.out.wb.fz 9
    go_wp2_with fail
    go_ret
    exact ⟨rfl, _, _, _, _, HP2.out.up (Nat.le_succ _)⟩
  · -- sync
    by_cases hd : d.down = true
    · have HSy := Lib.hid (HP1.out.downR hd (fn := 23) (args := #[.pointer (some ⟨d.T, 0, none⟩)]) (r := .int .i64 13) fun M lim arm v hlb hfb => slSync_down hlb hfb (.inl rfl))
      rw [← HT.out] at HSy
      go_upto_region 19 with (go_at_call 23; refine HSy.out.mono ?_; rintro e w2 ⟨rfl, hp2, -⟩; have HP2 := Lib.hid hp2; have e6 := hp2.g.wb.c6; rw [hd] at e6; clear hp2)
      go_wp2_with fail
      go_ret
      exact ⟨rfl, _, _, _, _, HP2.out.up (Nat.le_succ _)⟩
    · have hd : d.down = false := by simpa using hd
      have HHd := Lib.hid hd
      have HSy : Hid (Calls Tryz.prog 23 #[.pointer (some ⟨T, 0, none⟩)] W1 fun e w' => (e = .returned (.int .i64 13) ∧ DNs w0 w' B d G rs N i { d with down := true }) ∨ (e = .returned (.int .i64 0) ∧ LUP w0 w' B d G rs N i G rs.length)) := Lib.hid (by
        rw [HT.out]
        exact HP1.out.syncUp hd (by omega))
      clear hd
      go_upto_region 19 with (go_at_call 23; refine HSy.out.mono ?_; rintro e w2 hs; obtain ⟨er, rfl⟩ : ∃ er : Int, e = .returned (.int .i64 er) := (by rcases hs with ⟨h1, -⟩ | ⟨h1, -⟩; exact ⟨_, h1⟩; exact ⟨_, h1⟩); have HS2 := Lib.hid hs; clear hs)
      rcases HS2.out with ⟨h1, hdn⟩ | ⟨h1, hup⟩
      · obtain rfl : er = 13 := by simpa using h1
        have e6 := hdn.g.wb.c6
        have z6 := hdn.g.wb.fz 6
        rw [HHd.out] at e6
        have hm6 := hdn.set 6 (.bool true) { d with down := true } rfl rfl rfl rfl rfl rfl id
        have hpg : PG { d with down := true } G rs N i := ⟨HPW.out.pg.sm, HPW.out.pg.nm, HPW.out.pg.rA, HPW.out.pg.sf, HPW.out.pg.hN⟩
        have HM := Lib.hid (DNs.pw hm6 hpg rfl)
        clear h1 hdn hm6
        go_upto_region 23 with fail
        have HDn := Lib.hid (HM.out.isDown rfl)
        have e0 := HM.out.g.wb.c0
        rw [show ({ d with down := true } : Wd).F = F from HF.out.symm] at HDn e0
        go_wp2_with (go_at_call 11; refine HDn.out.mono ?_; rintro e w3 ⟨rfl, rfl⟩)
        go_ret
        exact ⟨rfl, _, _, _, _, HM.out.up (Nat.le_succ _)⟩
      · obtain rfl : er = 0 := by simpa using h1
        have e6 := hup.g.wb.c6
        rw [HHd.out] at e6
        obtain ⟨A3r, k3r, hrv, -, -, -⟩ := hup.g.rv.read
        obtain ⟨L, hL⟩ : ∃ L, L = rs.length := ⟨_, rfl⟩
        rw [List.length_map, ← hL] at hrv
        have e3 := hup.g.wb.c3
        rw [hrv] at e3
        have e4 := hup.g.wb.c4
        have z4 := hup.g.wb.fz 4
        have HM := Lib.hid ((hup.set 4 (.int .i64 (L : Nat)) { d with safe := L } rfl rfl rfl rfl rfl rfl id))
        have HL := Lib.hid hL
        clear h1 hup hrv hL
        go_wp2_with fail
        go_ret
        have h9 := HM.out.up (Nat.le_succ i)
        rw [← HL.out] at h9
        exact ⟨rfl, _, _, _, _, LUP.pw (d := { d with safe := L }) h9 ⟨HPW.out.pg.sm.mono (Nat.le_succ _), HPW.out.pg.nm, HPW.out.pg.rA, by show L ≤ rs.length; have := HL.out; omega, by have := HPW.out.pg.hN; omega⟩ HHd.out (HPW.out.lup HHd.out).2⟩
  · -- trim
    by_cases hd : d.down = true
    · have HTr : Hid (∀ W', Kept (fun _ => False) W1 W' → Calls Tryz.prog 24 #[.pointer (some ⟨T, 0, none⟩), .int .i64 an] W' fun e w' => e = .returned (.tuple #[.int .i64 0, .int .i64 13]) ∧ PW w0 w' B d G rs N i ∧ Kept (fun k => k < D) W1 w') := Lib.hid fun W' hk => by
        have h9 := (HP1.out.stay hk).downR hd (fn := 24) (args := #[.pointer (some ⟨d.T, 0, none⟩), .int .i64 an]) (r := .tuple #[.int .i64 0, .int .i64 13]) fun M lim arm v hlb hfb => slTrim_dead an hlb hfb (.inl rfl)
        rw [HT.out]
        refine h9.mono ?_
        rintro e w' ⟨he, hp, hk2⟩
        exact ⟨he, hp, (hk.mono fun _ _ e => False.elim e).trans' (hk2.mono fun k _ e => by have := HFT.out.2; omega)⟩
      go_upto_region 27 with fail
      go_region_held3 (fun W => W.cell? ⟨B, 1, none⟩ = some (.pointer (some ⟨T, 0, none⟩)) ∧ W.cell? ⟨D, 1, none⟩ = some (.int .i64 an)) (first | assumption | simp [*]) (first
        | (go_at_call 24; refine (HTr.out _ (by first | exact Kept.refl _ _ | exact (Kept.refl _ _).drew)).mono ?_; rintro e w2 ⟨rfl, hp2, hk2⟩; have HP2 := Lib.hid hp2; have s2 : w2.cell? ⟨B, 1, none⟩ = some (.pointer (some ⟨T, 0, none⟩)) ∧ w2.cell? ⟨D, 1, none⟩ = some (.int .i64 an) := ⟨(HCs.out _ hp2.g).2, (HOp.out _ hk2).2.1⟩; clear hp2 hk2))
      have e6 := HP2.out.g.wb.c6
      rw [hd] at e6
      go_wp2_with fail
      go_ret
      exact ⟨rfl, _, _, _, _, HP2.out.up (Nat.le_succ _)⟩
    · have hd : d.down = false := by simpa using hd
      have HHd := Lib.hid hd
      obtain ⟨m, hm⟩ : ∃ m : Nat, (m : Int) = max an 0 := ⟨(max an 0).toNat, by omega⟩
      have HTr : Hid (∀ W', Kept (fun _ => False) W1 W' → Calls Tryz.prog 24 #[.pointer (some ⟨T, 0, none⟩), .int .i64 an] W' fun e w' => Kept (fun k => k < D) W1 w' ∧ ((e = .returned (.tuple #[.int .i64 0, .int .i64 13]) ∧ DNs w0 w' B d G rs N i { d with down := true, under := 2 }) ∨ (e = .returned (.tuple #[.int .i64 ((trimN G m : Nat) : Int), .int .i64 0]) ∧ LUP w0 w' B d G rs N i (G.drop (trimN G m)) (d.safe - (allR (G.take (trimN G m))).length)))) := Lib.hid fun W' hk => by
        have h9 := HPW.out.trimUp (HK1.out.trans' hk) hd (by omega) an m hm
        rw [← HD.out] at h9
        rw [HT.out]
        refine h9.mono ?_
        rintro e w' ⟨hk2, h8⟩
        exact ⟨(hk.mono fun _ _ e => False.elim e).trans' hk2, h8⟩
      have HM0 := Lib.hid hm
      clear hd hm
      go_upto_region 27 with fail
      go_region_held3 (fun W => W.cell? ⟨B, 1, none⟩ = some (.pointer (some ⟨T, 0, none⟩)) ∧ W.cell? ⟨D, 1, none⟩ = some (.int .i64 an)) (first | assumption | simp [*]) (first
        | (go_at_call 24; refine (HTr.out _ (by first | exact Kept.refl _ _ | exact (Kept.refl _ _).drew)).mono ?_; rintro e w2 ⟨hk2, hs⟩; have HG2 : Hid (WG w0 w2 B d G rs N) := Lib.hid (by rcases hs with ⟨-, h2⟩ | ⟨-, h2⟩; exact h2.g; exact h2.g); obtain ⟨x2, er, rfl⟩ : ∃ x2 er : Int, e = .returned (.tuple #[.int .i64 x2, .int .i64 er]) := (by rcases hs with ⟨h1, -⟩ | ⟨h1, -⟩; exact ⟨_, _, h1⟩; exact ⟨_, _, h1⟩); have HS2 := Lib.hid hs; have p2 := (HOp.out _ hk2).2.1; have s2 : w2.cell? ⟨B, 1, none⟩ = some (.pointer (some ⟨T, 0, none⟩)) ∧ w2.cell? ⟨D, 1, none⟩ = some (.int .i64 an) := ⟨(HCs.out _ HG2.out).2, p2⟩; clear hs hk2))
      have e6 := HG2.out.wb.c6
      rw [HHd.out] at e6
      rcases HS2.out with ⟨h1, hdn⟩ | ⟨h1, hup⟩
      · obtain ⟨rfl, rfl⟩ : x2 = 0 ∧ er = 13 := by simpa using h1
        have z6 := HG2.out.wb.fz 6
        have HD1 := Lib.hid (hdn.set 6 (.bool true) { d with down := true } rfl rfl rfl rfl rfl rfl id)
        have e7 := HD1.out.g.wb.c7
        have z7 := HD1.out.g.wb.fz 7
        have hm7 := HD1.out.set 7 (.int .i64 2) { d with down := true, under := 2 } rfl rfl rfl rfl rfl rfl id
        have hpg : PG { d with down := true, under := 2 } G rs N i := ⟨HPW.out.pg.sm, HPW.out.pg.nm, HPW.out.pg.rA, HPW.out.pg.sf, HPW.out.pg.hN⟩
        have HM := Lib.hid (DNs.pw hm7 hpg rfl)
        clear h1 hdn hm7
        go_upto_region 32 with fail
        have HDn := Lib.hid (HM.out.isDown rfl)
        have e0 := HM.out.g.wb.c0
        rw [show ({ d with down := true, under := 2 } : Wd).F = F from HF.out.symm] at HDn e0
        clear e7 z7
        go_wp2_with (go_at_call 11; refine HDn.out.mono ?_; rintro e w3 ⟨rfl, rfl⟩)
        go_ret
        exact ⟨rfl, _, _, _, _, HM.out.up (Nat.le_succ _)⟩
      · obtain ⟨rfl, rfl⟩ : x2 = ((trimN G m : Nat) : Int) ∧ er = 0 := by simpa using h1
        obtain ⟨j, hj⟩ : ∃ j, j = trimN G m := ⟨_, rfl⟩
        have HTm := Lib.hid (wTrims_any HG2.out HM0.out (by have := HPW.out.pg.sm.few; omega) (by have := HPW.out.pg.sm.sum; omega))
        rw [← hj] at hup HTm ⊢
        have Hj := Lib.hid hj
        have HUp := Lib.hid hup
        obtain ⟨M, ps, c4, lim, arm, v, ms, sf, hwl, hus, hrm, hpr, hlg, hsb⟩ := hup.ex
        rw [← HT.out, ← HF.out] at hwl
        have HWl := Lib.hid hwl
        have HUs := Lib.hid hus
        have HRm := Lib.hid hrm
        have HPr := Lib.hid hpr
        have HLg := Lib.hid hlg
        have HSb := Lib.hid hsb
        have hj9 : j ≤ 61 := by
          rw [hj]
          have := HPW.out.pg.sm.few
          by_cases hG : G = []
          · rw [hG, trimN_few m (by simp)]; omega
          · have := trimN_lt G m hG; omega
        clear h1 hup hj hwl hus hrm hpr hlg hsb
        go_upto_region 35 with (go_at_call 25; refine HTm.out.mono ?_; rintro e w3 ⟨rfl, hk3⟩; have HK3 := Lib.hid hk3; clear hk3)
        go_wp2_with fail
        go_loopw [9] (fun x wr => ∃ k : Nat, k ≤ j ∧ x = .int .i64 (k : Nat) ∧ Hid (DI w0 wr B d G rs N T F M ps c4 lim arm v ms k)) (fun x _ => j - (intOf x).toNat)
        case' atStart => exact ⟨0, Nat.zero_le _, rfl, Lib.hid (DI.zero (HWl.out.stay HK3.out))⟩
        obtain ⟨k, hkj, rfl, hDI⟩ := hrel
        by_cases hlt : k < j
        · have hlt9 : (k : Int) < (j : Int) := by omega
          obtain ⟨dk, hwk, hsk, hlk⟩ := hDI.out.ex
          have HDr := Lib.hid (drop_call hwk hsk hlk HPW.out.pg.sm (by omega) HPW.out.pg.nm (by
            have hG : G ≠ [] := fun e => by have := Hj.out; rw [e, trimN_few m (by simp)] at this; omega
            have := trimN_lt G m hG
            have := Hj.out
            omega) (by have h9 := HPW.out.pg.sf; have h8 := HG2.out.len; have h7 := nxtP_eq HPW.out.pg.sm.cont; have h6 := HPW.out.pg.sm.nx; omega) HPW.out.pg.rA)
          clear hwk hsk hlk hDI
          go_wp2_with (go_at_call 26; refine HDr.out.mono ?_; rintro e w9 ⟨rfl, hdi⟩; have HDI9 := Lib.hid hdi; clear hdi)
          go_roundw
          case rel => exact ⟨k + 1, by omega, by go_num, HDI9⟩
          case measure => simp [intOf]; omega
        · have hlt9 : ¬ (k : Int) < (j : Int) := by omega
          obtain ⟨dk, hwk, hsk, hlk⟩ := hDI.out.ex
          have hkj2 : k = j := by omega
          rw [hkj2] at hwk hsk
          have HWk := Lib.hid hwk
          have HSk := Lib.hid hsk
          have HLk := Lib.hid hlk
          have HAl : Hid (Calls Tryz.prog 27 #[.pointer (some ⟨B, 0, none⟩)] wr fun e w' => e = .returned (.bool true) ∧ Kept (fun _ => False) wr w') := Lib.hid (wAlike_any hwk.g (by rw [hlk.T, hlk.F, ← HT.out, ← HF.out]; exact hwk.l) HPr.out ((HPW.out.pg.sm.drop j).mono (by omega)) hwk.kw fun r hr => HPW.out.pg.rA r (List.mem_of_mem_drop hr))
          clear hwk hsk hlk hDI hkj2
          go_wp2_with (go_at_call 27; refine HAl.out.mono ?_; rintro e w5 ⟨rfl, hk5⟩; have HK5 := Lib.hid hk5; clear hk5)
          go_ret
          refine ⟨rfl, dk, G.drop j, rs.drop (allR (G.take j)).length, N, LUP.pw (i := i + 1) ⟨M, ps, c4, lim, arm, v, ms, sf, ?_, ?_, ?_, HPr.out, HLg.out, ?_⟩ ⟨(HPW.out.pg.sm.drop j).mono (Nat.le_succ _), norm_drop HPW.out.pg.nm, fun r hr => HPW.out.pg.rA r (List.mem_of_mem_drop hr), ?_, by have := HPW.out.pg.hN; omega⟩ (HLk.out.down.trans HHd.out) (HLk.out.under.trans (HPW.out.lup HHd.out).2)⟩
          · rw [HLk.out.T, HLk.out.F, ← HT.out, ← HF.out]
            exact HWk.out.stay HK5.out
          · have := HUs.out; omega
          · intro e; exact HRm.out (by rw [← HLk.out.room]; exact e)
          · rw [HSk.out]; exact HSb.out
          · rw [HSk.out, List.length_drop]
            have := HPW.out.pg.sf
            omega
  · -- append
    obtain ⟨r, hr⟩ : ∃ r : BV, r = ⟨A, c, xs.take 900⟩ := ⟨_, rfl⟩
    have hrl : r.b.length = bn := by rw [hr]; exact HBn.out.symm
    have hb9 : bn ≤ 900 := by rw [← hrl, hr]; simp only [List.length_take]; omega
    have hrA : r.A = A := by rw [hr]
    have hrc : r.c = c := by rw [hr]
    have hrb : Bs w0 r.A r.b := by rw [hr]; exact HBs.out
    have hr0 : r.A = none → r.c = 0 := by rw [hr]; exact HA.out
    have HRl := Lib.hid hrl
    have HRb := Lib.hid hrb
    have HR0 := Lib.hid hr0
    have HRA := Lib.hid (And.intro hrA hrc)
    have HOw : Hid (Calls Tryz.prog 28 #[.slice A bn c, .int .u8 71] W1 fun e w' => e = .returned (.slice (some ⟨W1.heap.size, 0, none⟩) bn (bn + 3)) ∧ Row w' W1.heap.size (bn + 3) (r.b.map bv ++ List.replicate 3 (bv 71)) ∧ Below W1.heap.size W1 w') := Lib.hid (by
      have h9 := own_any W1 r.A r.c r.b 71 (by omega) (hrb.kept (HP1.out.kw) (by simp)) hr0
      rw [hrl, hrA, hrc] at h9
      exact h9)
    clear hr hrl hrA hrc hrb hr0
    go_upto_region 41 with (go_at_call 28; refine HOw.out.mono ?_; rintro e w2 ⟨rfl, hrow, hbl⟩; have HRow := Lib.hid hrow; have HK2 : Hid (Kept (fun _ => False) W w2) := Lib.hid (HK1.out.trans' (Kept.of_below hbl _ fun k h1 h2 => by omega)); clear hrow hbl)
    obtain ⟨I, hI⟩ : ∃ I, I = W1.heap.size := ⟨_, rfl⟩
    rw [← hI] at HRow ⊢
    have HI : Hid (D ≤ I) := Lib.hid (by rw [hI, HD.out]; exact HK1.out.size)
    clear hI
    have HP2 := Lib.hid (HPW.out.stay HK2.out)
    have cT2 := (HCs.out w2 HP2.out.g).2
    by_cases hd : d.down = true
    · have HAp := Lib.hid (HPW.out.downS HK2.out hd (I := I) (by have := HI.out; have := HD.out; omega) (fn := 17) (args := #[.pointer (some ⟨d.T, 0, none⟩), .slice (some ⟨I, 0, none⟩) bn (bn + 3)]) (r := .tuple #[.int .u64 0, .int .i64 13]) fun M lim arm v hlb hfb => slAppend_dead _ _ _ hlb hfb (.inl rfl))
      rw [← HT.out] at HAp
      go_upto_region 42 with (go_at_call 17; refine HAp.out.mono ?_; rintro e w3 ⟨rfl, hk3, hkw3, hp3⟩; have HP3 := Lib.hid hp3; have HKw3 := Lib.hid hkw3; have HRow3 : Hid (Row w3 I (bn + 3) (r.b.map bv ++ List.replicate 3 (bv 71))) := Lib.hid (HRow.out.kept hk3 (by have := HFT.out.2; have := HT.out; have := HI.out; omega)); clear hp3 hk3 hkw3)
      have HKp : Hid (Calls Tryz.prog 29 #[.slice (some ⟨I, 0, none⟩) bn (bn + 3), .slice A bn c, .int .u8 71] w3 fun e w' => e = .returned (.bool true) ∧ ∃ m, w' = w3.drewN m) := Lib.hid (by
        have h9 := kept_any w3 I r.A r.c bn r.b 71 (by omega) HRl.out.symm HRow3.out (HRb.out.kept HKw3.out (by simp))
        rw [HRA.out.1, HRA.out.2] at h9
        exact h9)
      go_upto_region 44 with (go_at_call 29; refine HKp.out.mono ?_; rintro e w4 ⟨rfl, m4, hm4⟩; have HK4 : Hid (Kept (fun _ => False) w3 w4) := Lib.hid (by rw [hm4]; exact (Kept.refl _ _).drewN _); have HRow4 : Hid (Row w4 I (bn + 3) (r.b.map bv ++ List.replicate 3 (bv 71))) := Lib.hid (HRow3.out.kept HK4.out (by simp)); clear hm4)
      have HSp := Lib.hid (spoil_some w4 I bn (bn + 3) (by omega) (HRow4.out.raw HRl.out.symm (by omega)))
      go_upto_region 45 with (go_at_call 30; refine HSp.out.mono ?_; rintro e w5 ⟨rfl, hk5⟩; have HK5 : Hid (Kept (fun k => k = I) w3 w5) := Lib.hid ((HK4.out.mono fun _ _ e => False.elim e).trans' hk5); clear hk5)
      have HP5 : Hid (PW w0 w5 B d G rs N i) := Lib.hid (HP3.out _ HK5.out)
      have e6 := HP5.out.g.wb.c6
      rw [hd] at e6
      go_wp2_with fail
      go_ret
      exact ⟨rfl, _, _, _, _, HP5.out.up (Nat.le_succ _)⟩
    · have hd : d.down = false := by simpa using hd
      have HHd := Lib.hid hd
      have HAp : Hid (Calls Tryz.prog 17 #[.pointer (some ⟨T, 0, none⟩), .slice (some ⟨I, 0, none⟩) bn (bn + 3)] w2 (AppR21 w0 W w2 B d G rs N i I r)) := Lib.hid (by
        have h9 := HPW.out.appUp (r := r) (c := bn + 3) HK2.out hd (by omega) (by have := HI.out; have := HD.out; omega) HRow.out.lt (fun W' hW' => HRow.out.bs (by have := HRl.out; omega) hW') (by have := HRl.out; omega) HRb.out HR0.out
        rw [HRl.out] at h9
        rw [HT.out]
        exact h9)
      clear hd
      go_upto_region 42 with (go_at_call 17; refine HAp.out.mono ?_; rintro e w3 ⟨hk3, hs⟩; obtain ⟨x3, er, rfl⟩ : ∃ x3 er : Int, e = .returned (.tuple #[.int .u64 x3, .int .i64 er]) := (by rcases hs with ⟨h1, -⟩ | ⟨h1, -⟩ | ⟨h1, -⟩; exact ⟨_, _, h1⟩; exact ⟨_, _, h1⟩; exact ⟨_, _, h1⟩); have HS3 := Lib.hid hs; have HRow3 : Hid (Row w3 I (bn + 3) (r.b.map bv ++ List.replicate 3 (bv 71))) := Lib.hid (HRow.out.kept hk3 (by have := HI.out; have := HD.out; omega)); have HKw3 : Hid (Kept (fun _ => False) w0 w3) := Lib.hid ((HPW.out.kw.trans' HK2.out).trans hk3 fun i hi e => by omega); clear hs hk3)
      have HKp : Hid (Calls Tryz.prog 29 #[.slice (some ⟨I, 0, none⟩) bn (bn + 3), .slice A bn c, .int .u8 71] w3 fun e w' => e = .returned (.bool true) ∧ ∃ m, w' = w3.drewN m) := Lib.hid (by
        have h9 := kept_any w3 I r.A r.c bn r.b 71 (by omega) HRl.out.symm HRow3.out (HRb.out.kept HKw3.out (by simp))
        rw [HRA.out.1, HRA.out.2] at h9
        exact h9)
      go_upto_region 44 with (go_at_call 29; refine HKp.out.mono ?_; rintro e w4 ⟨rfl, m4, hm4⟩; have HK4 : Hid (Kept (fun _ => False) w3 w4) := Lib.hid (by rw [hm4]; exact (Kept.refl _ _).drewN _); have HRow4 : Hid (Row w4 I (bn + 3) (r.b.map bv ++ List.replicate 3 (bv 71))) := Lib.hid (HRow3.out.kept HK4.out (by simp)); clear hm4)
      have HSp := Lib.hid (spoil_some w4 I bn (bn + 3) (by omega) (HRow4.out.raw HRl.out.symm (by omega)))
      go_upto_region 45 with (go_at_call 30; refine HSp.out.mono ?_; rintro e w5 ⟨rfl, hk5⟩; have HK5 : Hid (Kept (fun k => k = I) w3 w5) := Lib.hid ((HK4.out.mono fun _ _ e => False.elim e).trans' hk5); clear hk5)
      have HBb : Hid (r.val = .slice A bn c) := Lib.hid (by unfold BV.val; rw [HRl.out, HRA.out.1, HRA.out.2])
      have HHu := Lib.hid (HPW.out.lup HHd.out).2
      rcases HS3.out with ⟨h1, hup⟩ | ⟨h1, hroom, hup⟩ | ⟨h1, hdn⟩
      · obtain ⟨rfl, rfl⟩ : x3 = ((nxtP G : Nat) : Int) ∧ er = 0 := by simpa using h1
        have HUp := Lib.hid (hup w5 HK5.out)
        have e6 := HUp.out.g.wb.c6
        rw [HHd.out] at e6
        obtain ⟨nx, hnx⟩ : ∃ nx, nx = nxtP G := ⟨_, rfl⟩
        have HNx : Hid (Calls Tryz.prog 31 #[.pointer (some ⟨B, 0, none⟩)] w5 fun e w' => e = .returned (.int .u64 (nx : Nat)) ∧ Kept (fun _ => False) w5 w') := Lib.hid (by
          have h9 := wNext_kept HUp.out.g HPW.out.pg.sm.cont (by have := HPW.out.pg.sm.nx; omega)
          rw [← hnx] at h9
          exact h9)
        rw [← hnx]
        clear h1 hup hnx
        go_upto_region 54 with (go_at_call 31; refine HNx.out.mono ?_; rintro e w6 ⟨rfl, hk6⟩; have HU6 := Lib.hid (HUp.out.stay hk6); clear hk6)
        have HPt : Hid (Calls Tryz.prog 32 #[.pointer (some ⟨B, 0, none⟩), .slice A bn c] w6 (WPutPost w0 w6 B N d G rs r)) := Lib.hid (by
          have h9 := wPut_any HU6.out.g HU6.out.kw.size HPW.out.pg.sm.cont HRb.out HR0.out (by have := HRl.out; omega) (by have := HPW.out.pg.sm.few; omega) (by have := HPW.out.pg.hN; omega) (by have := HPW.out.pg.sm.nx; omega) fun p hp => by have := (HPW.out.pg.sm.one hp).2.2; omega
          rw [HRl.out, HRA.out.1, HRA.out.2] at h9
          exact h9)
        clear e6
        go_upto_region 55 with (go_at_call 32; refine HPt.out.mono ?_; rintro e w7 ⟨rfl, d7, hg7, hm7, hs7, hl7⟩; have HL7 := Lib.hid (HU6.out.wmv hm7 hg7 hl7.T hl7.F (by rw [hl7.room]; exact id)); have HS7 := Lib.hid hs7; have HLk := Lib.hid hl7; clear hg7 hm7 hs7 hl7)
        have HP7 : Hid (PW w0 w7 B d7 (logPut G r.b) (rs ++ [r]) (N + 1) (i + 1)) := Lib.hid (LUP.pw (by rw [HS7.out]; exact HL7.out) ⟨HPW.out.pg.sm.put (by have := HRl.out; omega), logPut_norm _ _, fun x hx => by
            rcases List.mem_append.1 hx with hx | hx
            · exact HPW.out.pg.rA x hx
            · rw [List.mem_singleton.1 hx]; exact HR0.out, by
            rw [HS7.out, List.length_append, List.length_singleton]
            have h9 := HPW.out.pg.sf
            have h8 := HPW.out.g.len
            have h7 := putSafe_le (G := G) (s := d.safe) (by omega)
            omega, by have := HPW.out.pg.hN; omega⟩ (HLk.out.down.trans HHd.out) (HLk.out.under.trans HHu.out))
        have HAl := Lib.hid (HP7.out.alike (HLk.out.down.trans HHd.out) (by omega))
        go_wp2_with (go_at_call 27; refine HAl.out.mono ?_; rintro e w8 ⟨rfl, hk8⟩; have HK8 := Lib.hid hk8; clear hk8)
        go_ret
        exact ⟨rfl, _, _, _, _, HP7.out.stay HK8.out⟩
      · obtain ⟨rfl, rfl⟩ : x3 = 0 ∧ er = 14 := by simpa using h1
        have HP7 : Hid (PW w0 w5 B d G rs N (i + 1)) := Lib.hid (LUP.pw (hup w5 HK5.out) (HPW.out.pg.up (Nat.le_succ _)) HHd.out HHu.out)
        have e6 := HP7.out.g.wb.c6
        rw [HHd.out] at e6
        have e9 := HP7.out.g.wb.c9
        rw [hroom] at e9
        have HAl := Lib.hid (HP7.out.alike HHd.out (by omega))
        clear h1 hup hroom
        go_wp2_with (go_at_call 27; refine HAl.out.mono ?_; rintro e w8 ⟨rfl, hk8⟩; have HK8 := Lib.hid hk8; clear hk8)
        go_ret
        exact ⟨rfl, _, _, _, _, HP7.out.stay HK8.out⟩
      · obtain ⟨rfl, rfl⟩ : x3 = 0 ∧ er = 13 := by simpa using h1
        have hd5 := hdn w5 HK5.out
        rw [HBb.out] at hd5
        have e6 := hd5.g.wb.c6
        have z6 := hd5.g.wb.fz 6
        rw [HHd.out] at e6
        have HD6 := Lib.hid (hd5.set 6 (.bool true) { d with down := true } rfl rfl rfl rfl rfl rfl id)
        have e7 := HD6.out.g.wb.c7
        have z7 := HD6.out.g.wb.fz 7
        have HD7 := Lib.hid (HD6.out.set 7 (.int .i64 1) { d with down := true, under := 1 } rfl rfl rfl rfl rfl rfl id)
        have e8 := HD7.out.g.wb.c8
        have z8 := HD7.out.g.wb.fz 8
        have hm8 := HD7.out.set 8 (.slice A bn c) { d with down := true, under := 1, bb := .slice A bn c } rfl rfl rfl rfl rfl rfl id
        have hpg : PG { d with down := true, under := 1, bb := .slice A bn c } G rs N (i + 1) := ⟨HPW.out.pg.sm.mono (Nat.le_succ _), HPW.out.pg.nm, HPW.out.pg.rA, HPW.out.pg.sf, by have := HPW.out.pg.hN; omega⟩
        have HM := Lib.hid (DNs.pw hm8 hpg rfl)
        clear h1 hdn hd5 hm8
        go_upto_region 49 with fail
        have HDn := Lib.hid (HM.out.isDown rfl)
        have e0 := HM.out.g.wb.c0
        rw [show ({ d with down := true, under := 1, bb := .slice A bn c } : Wd).F = F from HF.out.symm] at HDn e0
        clear e7 z7 e8 z8
        go_wp2_with (go_at_call 11; refine HDn.out.mono ?_; rintro e w9 ⟨rfl, rfl⟩)
        go_ret
        exact ⟨rfl, _, _, _, _, HM.out⟩
end Go.Proofs.YtibalgfejfjndaaGreatDoor
end

/-! courantlaw21.SeglogPlays, walked. -/
section
set_option linter.unusedVariables false
set_option linter.unusedSimpArgs false
namespace Go.Proofs.YtibalgfejfjndaaGreatDoor
open Go.RowKit

theorem step_any {w0 W : World} {B N i n c n3 c3 : Nat} {d : Wd} {G : List Prt} {rs : List BV} {kd an : Int} {A A3 : Option Addr} {xs : List UInt8} (h : PW w0 W B d G rs N i) (hi : i ≤ 59) (hbs : Bs w0 A xs) (hA : A = none → c = 0) (hn : n = xs.length) (hnc : n ≤ c) (han : an ≤ 9223372036854775807) (hks : ∀ j, j < n3 → ∃ ad z, A3 = some ad ∧ w0.cell? (ad.add j) = some (.int .i64 z)) :
    Calls Tryz.prog 7 #[.pointer (some ⟨B, 0, none⟩), .agg #[.int .i64 kd, .int .i64 an, .slice A n c, .slice A3 n3 c3]] W (StepPost w0 B i) := by
  rcases Nat.lt_or_ge 900 n with h9 | h9
  · exact step_long h hi hbs hA hn hnc han hks h9
  · exact step_short h hi hbs hA hn hnc han hks h9
/-- The ops that came in. -/
structure OpC21 (w : World) (ad : Addr) (k N : Int) (A : Option Addr) (n c : Nat) (Ak : Option Addr) (lk ck : Nat) : Prop where
  c0 : w.cell? ad = some (.int .i64 k)
  c1 : w.cell? ⟨ad.block, ad.off + 1, none⟩ = some (.int .i64 N)
  c2 : w.cell? ⟨ad.block, ad.off + 2, none⟩ = some (.slice A n c)
  c3 : w.cell? ⟨ad.block, ad.off + 3, none⟩ = some (.slice Ak lk ck)
structure OpOk21 (w : World) (N : Int) (A : Option Addr) (n c : Nat) (xs : List UInt8) (Ak : Option Addr) (lk : Nat) : Prop where
  nb : N ≤ 9223372036854775807
  l : n = xs.length
  lc : n ≤ c
  at_ : Bs w A xs
  nA : A = none → c = 0
  k : ∀ j, j < lk → ∃ ad z, Ak = some ad ∧ w.cell? (ad.add j) = some (.int .i64 z)
def Ops21 (w : World) (A : Option Addr) (n : Nat) : Prop := ∀ j, j < n → ∃ ad k N A2 n2 c2 xs Ak lk ck, A = some ad ∧ OpC21 w (ad.add (j * 4)) k N A2 n2 c2 Ak lk ck ∧ OpOk21 w N A2 n2 c2 xs Ak lk
theorem LG.none_kept {w w' : World} {T F M : Nat} {nm : ByteArray} {ps : List PF} {clock : Nat} {lim arm : Int} {dn dead : Bool} {v : Value} {S : Nat → Prop} (h : LG w T F M nm ps clock lim arm dn v [] dead) (hk : Kept S w w') (hS : ∀ k, LFoot T F M ps v [] k → ¬ S k) : LG w' T F M nm ps clock lim arm dn v [] dead :=
  ⟨h.f.kept hk fun k e => hS k (.inr (.inl e)), h.lb.kept hk (hS T (.inl rfl)), h.row.kept hk fun k e => hS k (.inr (.inr (.inl e))), fun p hp => (by cases hp), fun p hp => (by cases hp), h.nT, h.nv, h.nr, h.nq, h.dj⟩
/-- The world as it begins. -/
def wd0 (F T : Nat) : Wd := ⟨F, T, 0, .slice none 0 0, 0, .slice none 0 0, false, 0, .slice none 0 0, true⟩
theorem pw_first {w w1 W1 w2 w3 : World} {B F M T c : Nat} {ps : List PF} {v : Value} (hF : FilesAt w1 F M [] 0 1048576 0 false) (hk1 : Kept (fun _ => False) w w1) (hF1 : w.heap.size ≤ F) (hM1 : w.heap.size ≤ M) (hB : B = w1.heap.size) (hW1 : W1 = w1.alloc (.cells #[.pointer (some ⟨F, 0, none⟩), .pointer none, .int .u64 0, .slice none 0 0, .int .i64 0, .slice none 0 0, .bool false, .int .i64 0, .slice none 0 0, .bool true] 32))
    (hT : W1.heap.size ≤ T) (hl : LS w2 T F M nAb ps c 1048576 0 false v [] false 0 0) (hft : ∀ k, LFoot T F M ps v [] k → k ∈ foot F M [] ∨ W1.heap.size ≤ k) (hk2 : Kept (fun k => k ∈ foot F M []) W1 w2) (ho : ∀ s, (∀ u, s ≠ fileB nAb u) → lk ps s = lk [] s) (hu : usedL ps ≤ usedL []) (hk3 : Kept (fun _ => False) w2 w3) :
    PW w (w3.setCell ⟨B, 1, none⟩ (.pointer (some ⟨T, 0, none⟩))) B (wd0 F T) [] [] 0 0 := by
  have hk01 : Kept (fun _ => False) w1 W1 := by rw [hW1]; exact (Kept.refl _ w1).alloc _
  have hsz : W1.heap.size = w1.heap.size + 1 := by rw [hW1]; simp
  have hBW : W1.heap[B]? = some (.cells #[.pointer (some ⟨F, 0, none⟩), .pointer none, .int .u64 0, .slice none 0 0, .int .i64 0, .slice none 0 0, .bool false, .int .i64 0, .slice none 0 0, .bool true] 32 (0, 0)) := by rw [hW1, hB]; exact heap_alloc_new w1 _
  have hfl := hF.lt
  have hin : ∀ k, k ∈ foot F M [] → w.heap.size ≤ k ∧ k < w1.heap.size := fun k e => by
    have h1 : k = F ∨ k = M := by simpa [foot] using e
    have h2 := hfl k e
    omega
  have hBn : B ∉ foot F M [] := fun e => by have := hin B e; omega
  have hB3 := hk3.heap (hk2.heap hBW hBn) (by simp)
  have hset := kF w3 B 1 (.pointer (some ⟨T, 0, none⟩))
  have hBL : ∀ k, LFoot T F M ps v [] k → ¬ k = B := fun k e e2 => (hft k e).elim (fun h => hBn (e2 ▸ h)) fun h => by omega
  have hkw : Kept (fun _ => False) w (w3.setCell ⟨B, 1, none⟩ (.pointer (some ⟨T, 0, none⟩))) := by
    have h1 : Kept (fun _ => False) w w2 := (hk1.trans' hk01).trans hk2 fun i hi e => by have := hin i e; omega
    exact (h1.trans' hk3).trans hset fun i hi e => by have := hk1.size; omega
  have hwb : WB (w3.setCell ⟨B, 1, none⟩ (.pointer (some ⟨T, 0, none⟩))) B (wd0 F T) := by
    unfold WB World.setCell
    simp only [Array.getElem?_modify, if_true, hB3]
    rfl
  have hsm : Sml [] 0 := Sml.nil
  have hlg := (hl.lg.stay hk3).none_kept hset hBL
  refine ⟨⟨hsm, rfl, fun r hr => (by cases hr), Nat.le_refl _, Nat.le_refl _⟩, M, ps, c, 1048576, 0, v, [], ⟨⟨hwb, RowS.nil _ _ _ _, World.ownsRow_nil _ _ _ _, rfl, rfl, fun r hr => (by cases hr), by have := hk1.size; omega⟩, hlg, hkw, fun k e => (hft k e).elim (fun h => (hin k h).1) fun h => by have := hk1.size; omega, fun k e e2 => ?_⟩, ?_, fun _ => rfl, fun _ => ⟨rfl, rfl, 0, ?_, ?_⟩, fun e => by cases e⟩
  · rcases e with e | e | e
    · exact hBL k e2 e
    · cases e
    · cases e
  · have : usedL [] = 0 := rfl
    omega
  · exact ⟨hl.ld, fun a q e => by simp at e, fun s hs => ho s hs⟩
  · intro a q e; simp at e
theorem boundS21 : boundI 1048576 = 1048576 := by decide
set_option maxRecDepth 100000 in
set_option maxHeartbeats 8000000 in
theorem seglogPlays_any (A : Option Addr) (n c : Nat) (w : World) (h : Ops21 w A n) :
    Calls Tryz.prog 3 #[.slice A n c] w fun e w' => e = .returned (.bool true) ∧ Kept (fun _ => False) w w' := by
  have HOps := Lib.hid h
  have HN := Lib.hid (new_any w 1048576)
  have hbu : ∀ (W : World) (F : Nat), (Instr.build 32 #[(0, .pointer (some ⟨F, 0, none⟩)), (9, .bool true)]).run Tryz.prog W = .ok (.agg #[.pointer (some ⟨F, 0, none⟩), .pointer none, .int .u64 0, .slice none 0 0, .int .i64 0, .slice none 0 0, .bool false, .int .i64 0, .slice none 0 0, .bool true]) W := fun W F => by kernel_rfl
  clear h
  go_enter Tryz.func3, Tryz.ntmps3
  go_upto_region 2 with (go_at_call 4; refine HN.out.mono ?_; rintro e w1 ⟨F, M, rfl, hF, hk, hF1, hM1⟩; rw [boundS21] at hF; have HF := Lib.hid hF; have HK1 := Lib.hid hk; have HFs := Lib.hid hF1; have HMs := Lib.hid hM1; clear hF hk hF1 hM1)
  obtain ⟨W1, hW1⟩ : ∃ W1, W1 = w1.alloc (.cells #[.pointer (some ⟨F, 0, none⟩), .pointer none, .int .u64 0, .slice none 0 0, .int .i64 0, .slice none 0 0, .bool false, .int .i64 0, .slice none 0 0, .bool true] 32) := ⟨_, rfl⟩
  obtain ⟨B, hB⟩ : ∃ B, B = w1.heap.size := ⟨_, rfl⟩
  have hBW : W1.heap[B]? = some (.cells #[.pointer (some ⟨F, 0, none⟩), .pointer none, .int .u64 0, .slice none 0 0, .int .i64 0, .slice none 0 0, .bool false, .int .i64 0, .slice none 0 0, .bool true] 32 (0, 0)) := by rw [hW1, hB]; exact heap_alloc_new w1 _
  have HKa : Hid (Kept (fun _ => False) w1 W1) := Lib.hid (by rw [hW1]; exact (Kept.refl _ _).alloc _)
  have HBW := Lib.hid hBW
  have HW1 := Lib.hid hW1
  have HB := Lib.hid hB
  rw [← hW1, ← hB]
  have k0 : W1.cell? ⟨B, 0, none⟩ = some (.pointer (some ⟨F, 0, none⟩)) := by simp [World.cell?, hBW]
  clear hW1 hB hBW hbu
  have HOp := Lib.hid (slOpen_0 (nm := ⟨#[97, 46, 98]⟩) (HF.out.kept HKa.out (by simp)) (openL_none (fun u _ => rfl) (by decide) nAb_fullB (by simp) (by simp)))
  go_upto_region 3 with (go_at_call 5; refine HOp.out.mono ?_; rintro e w2 ⟨T, v, ps, c2, rfl, hT, hl, hft, hk2, ho, hu⟩; have HT := Lib.hid hT; have HL := Lib.hid hl; have HFt := Lib.hid hft; have HK2 := Lib.hid hk2; have HO := Lib.hid ho; have HU := Lib.hid hu; clear hT hl hft hk2 ho hu)
  clear k0 HOp
  go_upto_region 5 with (go_at_call 6; refine (awake21_any _).mono ?_; rintro e w3 ⟨rfl, hk⟩; have HK3 := Lib.hid hk; clear hk)
  have HPW : Hid (PW w (w3.setCell ⟨B, 1, none⟩ (.pointer (some ⟨T, 0, none⟩))) B (wd0 F T) [] [] 0 0) := Lib.hid (pw_first HF.out HK1.out HFs.out HMs.out HB.out HW1.out HT.out HL.out HFt.out HK2.out HO.out HU.out HK3.out)
  have hBn : B ∉ foot F M [] := fun e => by have := HF.out.lt B e; have := HB.out; omega
  have hB3 := HK3.out.heap (HK2.out.heap HBW.out hBn) (by simp)
  have k1 : w3.cell? ⟨B, 1, none⟩ = some (.pointer none) := by simp [World.cell?, hB3]
  have z1 : w3.frozen? ⟨B, 1, none⟩ = false := by simp [World.frozen?, hB3]
  clear hBn hB3
  go_upto_region 7 with fail
  obtain ⟨W5, hW5⟩ : ∃ W5, W5 = w3.setCell ⟨B, 1, none⟩ (.pointer (some ⟨T, 0, none⟩)) := ⟨_, rfl⟩
  rw [← hW5] at HPW ⊢
  clear hW5 k1 z1
  go_wp2_with fail
  go_loopw [6] (fun i wr => ∃ q : Nat, i = .int .i64 (q : Nat) ∧ q ≤ 60 ∧ Hid (∃ d G rs N, PW w wr B d G rs N q)) (fun i _ => 60 - (intOf i).toNat)
  case atStart => exact ⟨0, rfl, by omega, Lib.hid ⟨_, _, _, _, HPW.out⟩⟩
  case round =>
    obtain ⟨q, rfl, hq, hP⟩ := hrel
    by_cases hlt : q < n ∧ q < 60
    · obtain ⟨hlt1, hlt2⟩ := hlt
      have hq9 : (q : Int) < (n : Int) := by omega
      have hq7 : (q : Int) < 60 := by omega
      obtain ⟨d, G, rs, N, hpw⟩ := hP.out
      obtain ⟨ad, k, N0, A2, n2, c2', xs, Ak, lk, ck, rfl, hc, ho⟩ := HOps.out q hlt1
      have c0 := hpw.kw.cell hc.c0 (by simp)
      have c1 := hpw.kw.cell hc.c1 (by simp)
      have c2'' := hpw.kw.cell hc.c2 (by simp)
      have c3 := hpw.kw.cell hc.c3 (by simp)
      have HSt := Lib.hid (step_any (kd := k) (c3 := ck) hpw (by omega) ho.at_ ho.nA ho.l ho.lc ho.nb ho.k)
      clear hpw hc ho hP
      go_wp2_with (go_at_call 7; refine HSt.out.mono ?_; rintro e w4 ⟨rfl, hp4⟩; have HP4 := Lib.hid hp4; clear hp4)
      go_roundw
      case rel => exact ⟨q + 1, by go_num, by omega, HP4⟩
      case measure => simp [intOf]; omega
    · have hx : ¬ (q : Int) < (n : Int) ∨ ((q : Int) < (n : Int) ∧ ¬ (q : Int) < 60) := by omega
      rcases hx with hx | ⟨hx, hx2⟩
      all_goals
        go_wp2_with fail
        go_ret
        obtain ⟨d, G, rs, N, hpw⟩ := hP.out
        exact ⟨rfl, hpw.kw⟩
end Go.Proofs.YtibalgfejfjndaaGreatDoor
end
