import Derived.Test.YtibalgfejfjndaaGreatDoorMam
/-! A log's Append, into a new segment behind a full one. -/
section
set_option linter.unusedVariables false
set_option linter.unusedSimpArgs false
namespace Go.Proofs.YtibalgfejfjndaaGreatDoor
open Go.RowKit

theorem LG.flt {w : World} {T F M : Nat} {nm : ByteArray} {ps : List PF} {clock : Nat} {lim arm : Int} {dn dead : Bool} {v : Value} {ms : List PM} (h : LG w T F M nm ps clock lim arm dn v ms dead) : ∀ k, LFoot T F M ps v ms k → k < w.heap.size := fun k e => by
  rcases e with e | e | e | ⟨p, hp, e⟩
  · rw [e]; exact h.lb.lt
  · exact h.f.lt k e
  · exact own_ltH h.row k e
  · exact own_ltH (h.rr p hp) k e
theorem snoc_or (G : List Prt) : G = [] ∨ ∃ a q, G = a ++ [q] := by
  rcases List.eq_nil_or_concat G with h | ⟨a, q, h⟩
  · exact .inl h
  · exact .inr ⟨a, q, by rw [h, List.concat_eq_append]⟩
theorem logPut_new {G : List Prt} (xs : List UInt8) (hbig : ∀ a q, G = a ++ [q] → 2048 ≤ szP q) : logPut G xs = G ++ [(nxtP G, [xs])] := by
  rcases snoc_or G with rfl | ⟨a, q, rfl⟩
  · rfl
  · rw [logPut_snoc, if_pos (hbig a q rfl), nxtP_snoc]
theorem sfPut_new {G : List Prt} {sf : Nat} (hbig : ∀ a q, G = a ++ [q] → 2048 ≤ szP q) : sfPut G sf = 0 := by
  unfold sfPut
  rcases snoc_or G with rfl | ⟨a, q, rfl⟩
  · rfl
  · rw [List.getLast?_concat]; simp only; rw [if_pos (hbig a q rfl)]
theorem next_no {d : Disk} {nm : ByteArray} {G : List Prt} {s1 : Nat} (hc : Cont G) (hd : LogD d nm G [] s1) (hbig : ∀ a q, G = a ++ [q] → 2048 ≤ szP q) (h64 : nxtP G < 18446744073709551616) : d (fileB nm (nxtP G)) = none := by
  rw [hd _ h64]
  apply Classical.byContradiction
  intro hx
  obtain ⟨q, hq, e⟩ := List.mem_map.1 (lookP_none.1 hx)
  have h1 := Cont.lt_end hc q hq
  rcases snoc_or G with rfl | ⟨a, p, rfl⟩
  · cases hq
  · have hne : q.2 ≠ [] := by
      rcases List.mem_append.1 hq with hq | hq
      · exact Cont.ne hc q hq
      · rw [List.mem_singleton.1 hq]; exact szP_ne (hbig a p rfl)
    have := List.length_pos_iff.2 hne
    unfold endP at h1
    omega
theorem new_disk {d : Disk} {nm : ByteArray} {G : List Prt} {s1 sf : Nat} (xs : List UInt8) (hc : Cont G) (hd : LogD d nm G [] s1) (hs : ∀ a q, G = a ++ [q] → s1 = szP q) (hbig : ∀ a q, G = a ++ [q] → 2048 ≤ szP q) (h64 : nxtP G < 18446744073709551616) :
    LogD (d.put (fileB nm (nxtP G)) (some ((oldB (d (fileB nm (nxtP G)))).1 ++ frameB (nxtP G) xs, (oldB (d (fileB nm (nxtP G)))).2))) nm (logPut G xs) [] (sfPut G sf) := by
  rw [next_no hc hd hbig h64, logPut_new xs hbig, sfPut_new hbig]
  have hcc := logPut_cont xs hc
  rw [logPut_new xs hbig] at hcc
  have e1 : (oldB none).1 ++ frameB (nxtP G) xs = frsP (nxtP G, [xs]) ++ [] := by simp [oldB, frsP, frsL]
  rw [e1]
  rcases snoc_or G with rfl | ⟨a, q, rfl⟩
  · exact hd.first (q := (nxtP [], [xs])) h64
  · rw [hs a q rfl] at hd
    exact hd.more (q := (nxtP (a ++ [q]), [xs])) hcc h64
set_option maxRecDepth 100000 in
set_option maxHeartbeats 16000000 in
theorem slAppend_big (w : World) (T F M : Nat) (nm : ByteArray) (ps : List PF) (clock : Nat) (lim arm : Int) (v : Value) (ms : List PM) (p : PM) (sf : Nat) (A : Option Addr) (n c : Nat) (xs : List UInt8) (h : LG w T F M nm ps clock lim arm false v (ms ++ [p]) false)
    (hp : LAppPre w T F M nm ps v (ms ++ [p]) sf A n c xs) (hs : 2048 ≤ szP p.prt) :
    Calls Tryz.prog 17 #[.pointer (some ⟨T, 0, none⟩), .slice A n c] w (LAppPost w T F M nm ps lim arm v (ms ++ [p]) sf xs) := by
  have H := Lib.hid h
  have HP := Lib.hid hp
  have HR := Lib.hid (slReady_ok w T F M nm v lim arm h.lb h.f.fb)
  obtain ⟨G, cv, rfl, hob, hc, hc9, hG, hcell⟩ := h.row.form (by simp)
  obtain ⟨m, hm⟩ : ∃ m, m = ms.length := ⟨_, rfl⟩
  have hlen : (ms ++ [p]).length = m + 1 := by rw [hm]; simp
  rw [hlen] at hc H HP
  rw [hlen]
  have hm9 : m ≤ 100000 := by have := hp.few; rw [hlen] at this; omega
  have hpp : (ms ++ [p])[m]? = some p := by rw [hm]; simp
  obtain ⟨g0, g1, g2⟩ := hcell m p hpp
  have hnx : nxtP (prts (ms ++ [p])) = p.first + p.rs.length := by rw [prts_snoc, nxtP_snoc]; simp [endP, PM.prt]
  have hnx9 : p.first + p.rs.length ≤ 1000000000 := by have := hp.next; omega
  obtain ⟨nx, hnxe⟩ : ∃ nx, nx = p.first + p.rs.length := ⟨_, rfl⟩
  have hnx8 : nx ≤ 1000000000 := by omega
  have HNx := Lib.hid (slNext_some w T F nm G m cv p.first p.rs.length p.c p.A false H.out.lb (by omega) hc g0 g1 (by omega))
  rw [← hnxe] at HNx
  have HLa : Hid (∀ W, Kept (fun _ => False) w W → Calls Tryz.prog 44 #[.pointer (some ⟨T, 0, none⟩)] W fun e w' => e = .returned (.pointer (some ⟨G, m * 3, none⟩)) ∧ ∃ m, w' = W.drewN m) := Lib.hid fun W hW => slLast_some W T F nm G m cv false (H.out.lb.kept hW (by simp)) (by omega) hc
  have HMk : Hid (∀ W, Kept (fun _ => False) w W → Calls Tryz.prog 43 #[.int .u64 (nx : Nat), .slice A n c] W fun e w' => ∃ v, e = .returned (.tuple #[v, .int .i64 0]) ∧ w'.ownsRow W.heap.size 5 1 v (frameB nx xs).length ((frameB nx xs).map bv) ∧ Kept (fun _ => False) W w') := Lib.hid fun W hW => make_any W nx A n c xs (by omega) HP.out.xn (by have := HP.out.short; have := HP.out.xn; omega) (HP.out.x W (hW.mono fun _ _ e => e.elim)) HP.out.xA
  have HFi : Hid (∀ W, Calls Tryz.prog 10 #[.string nm, .int .u64 (nx : Nat)] W fun e w' => e = .returned (.string (fileB nm nx)) ∧ Kept (fun _ => False) W w') := Lib.hid fun W => slFile_any W nm nx HP.out.nms (by omega)
  have hcG := hp.cont
  have hdG := hp.ld
  rw [prts_snoc] at hcG hdG
  have hgot : lk ps (fileB nm p.first) = some (frsP p.prt ++ [], sf) := by rw [hdG p.first (by omega)]; exact lookP_last hcG
  have HSy : Hid (∀ W, Kept (fun _ => False) w W → Calls Tryz.prog 23 #[.pointer (some ⟨T, 0, none⟩)] W (SyncPost W T F M nm ps lim arm (.slice (some ⟨G, 0, none⟩) (m + 1) cv) (ms ++ [p]) ((lk ps).put (fileB nm p.first) (some (frsP p.prt ++ [], (frsP p.prt ++ []).length))))) := Lib.hid fun W hW => slSync_some W T F M nm ps clock lim arm _ ms p _ (H.out.stay hW) (by omega) HP.out.nms (by omega) hgot
  have HGot := Lib.hid hgot
  have hnxG : nxtP (prts ms ++ [p.prt]) = nx := by rw [nxtP_snoc, hnxe]; simp [endP, PM.prt]
  have hD1 : LogD ((lk ps).put (fileB nm p.first) (some (frsP p.prt ++ [], (frsP p.prt ++ []).length))) nm (prts ms ++ [p.prt]) [] (szP p.prt) := by
    have := hdG.last (p' := p.prt) (t' := []) (sf' := (frsP p.prt ++ []).length) hcG rfl (by show p.first < _; omega)
    have hl0 : (frsP p.prt ++ []).length = szP p.prt := by rw [List.append_nil]; rfl
    rw [hl0] at this ⊢
    exact this
  have hbig : ∀ a q, prts ms ++ [p.prt] = a ++ [q] → 2048 ≤ szP q := fun a q e => by
    have := (List.append_inj' e rfl).2
    simp only [List.cons.injEq, and_true] at this
    rw [← this]; exact hs
  have hs1 : ∀ a q, prts ms ++ [p.prt] = a ++ [q] → szP p.prt = szP q := fun a q e => by
    have := (List.append_inj' e rfl).2
    simp only [List.cons.injEq, and_true] at this
    rw [← this]
  have HD2 := Lib.hid (new_disk (sf := sf) xs hcG hD1 hs1 hbig (by rw [hnxG]; omega))
  rw [hnxG] at HD2
  have HNo := Lib.hid (next_no hcG hD1 hbig (by rw [hnxG]; omega))
  rw [hnxG] at HNo
  have HD1 := Lib.hid hD1
  have HLP := Lib.hid (logPut_new xs hbig)
  rw [hnxG] at HLP
  obtain ⟨sz, hsz⟩ : ∃ sz, sz = szP p.prt := ⟨_, rfl⟩
  rw [← hsz] at g2 hs
  have HS2 : Hid (∀ W S, Kept S w W → ¬ S G → W.cell? ⟨G, m * 3 + 2, none⟩ = some (.int .i64 (sz : Nat))) := Lib.hid fun W S hk hG => hk.cell g2 hG
  have hsI : (2048 : Int) ≤ (sz : Int) := by omega
  have HSz := Lib.hid hsz
  have HNxe := Lib.hid hnxe
  have HNxp := Lib.hid hnx
  have HM := Lib.hid hm
  clear h hp hcell hpp hob hlen hm hc9 hnx hnx9 hnxe hsz hs g0 g1 g2 hG hcG hdG hgot hnxG hD1 hbig hs1
  go_enter Tryz.func17, Tryz.ntmps17
  go_upto_region 5 with (first | (go_at_call 42; refine HR.out.mono ?_; rintro e w ⟨rfl, rfl⟩) | (go_at_call 18; refine HNx.out.mono ?_; rintro e w1 ⟨rfl, m9, hw1⟩; have HK1 : Hid (Kept (fun _ => False) w w1) := Lib.hid (by rw [hw1]; exact (Kept.refl _ _).drewN _); clear hw1))
  go_upto_region 9 with (first | (go_at_call 43; refine (HMk.out _ HK1.out).mono ?_; rintro e w2 ⟨vb, rfl, hob, hk⟩; have HO2 := Lib.hid hob; have HK2 := Lib.hid (HK1.out.trans' hk); have HK12 := Lib.hid hk; clear hob hk) | (go_at_call 44; refine (HLa.out _ HK2.out).mono ?_; rintro e w3 ⟨rfl, m8, hw3⟩; have HK23 : Hid (Kept (fun _ => False) w2 w3) := Lib.hid (by rw [hw3]; exact (Kept.refl _ _).drewN _); have HK3 := Lib.hid (HK2.out.trans' HK23.out); have s4 := HS2.out w3 _ HK3.out (by simp); clear hw3))
  obtain ⟨A2, c2, rfl⟩ := own_slice HO2.out
  obtain ⟨n2, hn2⟩ : ∃ n2, n2 = (frameB nx xs).length := ⟨_, rfl⟩
  obtain ⟨Ax, cx, hAx, -, hbx, hAn, hbo⟩ := Bs.of_own HO2.out
  rw [← hn2] at hAx
  simp only [Value.slice.injEq] at hAx
  obtain ⟨rfl, -, rfl⟩ := hAx
  have hn29 : n2 = 16 + xs.length := by rw [hn2, frameB_len]; omega
  have hn2b : n2 ≤ 40000 := by have := HP.out.short; omega
  have HBf : Hid (∀ W, Kept (fun k => k < w.heap.size ∨ w3.heap.size ≤ k) w3 W → Bs W A2 (frameB nx xs)) := Lib.hid fun W hW => (hbx.kept HK23.out (by simp)).kept hW fun ad e e2 => by
    have h1 := own_ge HO2.out ad.block (by rw [e]; rfl)
    have h3 := HK1.out.size
    have h6 := own_ltH HO2.out ad.block (by rw [e]; rfl)
    have h7 := HK23.out.size
    omega
  have HAn : Hid (A2 = none → c2 = 0) := Lib.hid hAn
  have HBo : Hid (∀ ad, A2 = some ad → frameB nx xs = [] ∨ ad.block ≠ M) := Lib.hid fun ad e => .inr fun e2 => by
    have h1 := own_ge HO2.out ad.block (by rw [e]; rfl)
    have h2 := H.out.f.lt M (by simp [foot])
    have h3 := HK1.out.size
    omega
  rw [← hn2]
  have Hn2 := Lib.hid hn29
  have Hn2e := Lib.hid hn2
  clear hn2 hn29 hbx hAn hbo
  go_upto_region 11 with (go_at_call 23; refine (HSy.out _ HK3.out).mono ?_; rintro e w4 ⟨er, ps4, c4, rfl, h4, hM4⟩; have H4 := Lib.hid h4; have HM4 := Lib.hid hM4; clear h4 hM4)
  clear s4
  rcases H4.out with ⟨rfl, ha4, hl4, hd4⟩ | ⟨rfl, ha4, hl4, hd4⟩
  rotate_left
  · have HL4 := Lib.hid hl4
    have HA4 := Lib.hid ha4
    have HD4 : Hid (LogD (lk ps4) nm (prts (ms ++ [p])) [] sf) := Lib.hid (by rw [hd4]; exact HP.out.ld)
    have HO4 : Hid (∀ s, (∀ u, s ≠ fileB nm u) → lk ps4 s = lk ps s) := Lib.hid fun s _ => by rw [hd4]
    have HU4 : Hid (usedL ps4 ≤ usedL ps + (16 + xs.length)) := Lib.hid (by have := used_same H.out.f.names hl4.f.names hd4; omega)
    have HMv := Lib.hid ((MvL.stay HK3.out).trans HM4.out)
    clear ha4 hl4 hd4
    go_wp2
    go_ret2
    exact ⟨13, ps4, c4, _, _, _, true, rfl, HL4.out, HMv.out, fun q hq => HL4.out.rd q hq, HO4.out, decA0, HU4.out, .inr (.inr ⟨rfl, by rw [HA4.out]; decide, rfl, rfl, rfl, .inl HD4.out⟩)⟩
  have HL4 := Lib.hid hl4
  have HD4 := Lib.hid hd4
  have HMv := Lib.hid (show MvL w T F M ps (.slice (some ⟨G, 0, none⟩) (m + 1) cv) (ms ++ [p]) ps4 (.slice (some ⟨G, 0, none⟩) (m + 1) cv) (ms ++ [p]) w4 from (MvL.stay HK3.out).trans HM4.out)
  have HO4 : Hid (∀ s, (∀ u, s ≠ fileB nm u) → lk ps4 s = lk ps s) := Lib.hid fun s hs => by rw [hd4, Disk.put_ne _ _ (hs p.first)]
  have HU4 : Hid (usedL ps4 = usedL ps) := Lib.hid (by
    have := used_put H.out.f.names hl4.f.names hd4
    rw [HGot.out, show szV (some (frsP p.prt ++ [], sf)) = szV (some (frsP p.prt ++ [], (frsP p.prt ++ []).length)) from rfl] at this
    omega)
  have HK34 : Hid (Kept (fun k => k < w.heap.size ∨ w3.heap.size ≤ k) w3 w4) := Lib.hid (HM4.out.kept.mono fun k _ e => .inl (H.out.flt k e))
  clear ha4 hl4 hd4
  obtain ⟨ms0, hms0⟩ : ∃ ms0, ms0 = ms ++ [p] := ⟨_, rfl⟩
  obtain ⟨k0, hk0⟩ : ∃ k0, k0 = m + 1 := ⟨_, rfl⟩
  have hkl : k0 = ms0.length := by rw [hk0, hms0, HM.out]; simp
  have hk09 : k0 ≤ 100001 := by omega
  have hms9 : prts ms0 = prts ms ++ [p.prt] := by rw [hms0, prts_snoc]
  rw [← hms0, ← hk0] at HL4 HMv ⊢
  have HMs := Lib.hid hms0
  have HK0 := Lib.hid hk0
  have HKl := Lib.hid hkl
  have HMs9 := Lib.hid hms9
  obtain ⟨v4, hv4⟩ : ∃ v4, v4 = Value.slice (some ⟨G, 0, none⟩) k0 cv := ⟨_, rfl⟩
  rw [← hv4] at HL4 HMv ⊢
  have HV4 := Lib.hid hv4
  have HDn : Hid (∀ ps5 : List PF, lk ps5 = (lk ps4).put (fileB nm nx) (some ((oldB (lk ps4 (fileB nm nx))).1 ++ frameB nx xs, (oldB (lk ps4 (fileB nm nx))).2)) → LogD (lk ps5) nm (logPut (prts ms0) xs) [] (sfPut (prts ms0) sf)) := Lib.hid fun ps5 e => by rw [e, HD4.out, HMs9.out]; exact HD2.out
  have HDo : Hid (∃ sf', sf ≤ sf' ∧ LogD (lk ps4) nm (prts ms0) [] sf') := Lib.hid (by
    refine ⟨szP p.prt, ?_, by rw [HD4.out, HMs9.out]; exact HD1.out⟩
    exact HP.out.sfl _ _ (prts_snoc ms p))
  have HLpn : Hid (logPut (prts ms0) xs = prts ms0 ++ [(nx, [xs])]) := Lib.hid (by rw [HMs9.out]; exact HLP.out)
  have HNxq : Hid (nxtP (prts ms0) = nx) := Lib.hid (by rw [HMs.out, HNxp.out, HNxe.out])
  have HNo4 : Hid (lk ps4 (fileB nm nx) = none) := Lib.hid (by rw [HD4.out]; exact HNo.out)
  clear hms0 hk0 hkl hms9 hv4
  have HTl := HM
  have HU5 : Hid (∀ ps5 : List PF, (ps5.map PF.name).Nodup → lk ps5 = (lk ps4).put (fileB nm nx) (some ((oldB (lk ps4 (fileB nm nx))).1 ++ frameB nx xs, (oldB (lk ps4 (fileB nm nx))).2)) → usedL ps5 ≤ usedL ps + (16 + xs.length)) := Lib.hid fun ps5 hn' he => by
    have := used_put HL4.out.f.names hn' he
    rw [HNo4.out] at this
    have hU := HU4.out
    have e0 : szV (none : Option FV) = 0 := rfl
    have e1 : szV (some ((oldB none).1 ++ frameB nx xs, (oldB none).2)) = 16 + xs.length := by
      show ((oldB none).1 ++ frameB nx xs).length = _
      simp only [oldB, Option.getD_none, List.nil_append, frameB_len]; omega
    rw [e0, e1] at this
    omega
  have HAp : Hid (∀ W, Kept (fun _ => False) w4 W → Calls Tryz.prog 46 #[.pointer (some ⟨F, 0, none⟩), .string (fileB nm nx), .slice A2 n2 c2] W fun e w' => ∃ er, e = .returned (.int .i64 er) ∧ AppR W F M ps4 lim (decA arm) (fileB nm nx) (frameB nx xs) er w') := Lib.hid fun W hW => appR_any (fileB nm nx) A2 n2 c2 (frameB nx xs) (HL4.out.stay hW).f (by rw [size_fileB]; have := HP.out.nms; omega) (HP.out.full _) (by have := HU4.out; have := HP.out.used; omega) (HBf.out W (HK34.out.trans' (hW.mono fun _ _ e => e.elim))) Hn2e.out (by omega) HAn.out HBo.out
  have HS : Hid (∀ W S, Kept S w4 W → ¬ S T → W.cell? ⟨T, 0, none⟩ = some (.pointer (some ⟨F, 0, none⟩)) ∧ W.cell? ⟨T, 1, none⟩ = some (.string nm)) := Lib.hid fun W S hk hS => ⟨hk.cell HL4.out.lb.c0 hS, hk.cell HL4.out.lb.c1 hS⟩
  have s3 := HS.out w4 _ (Kept.refl (fun _ => False) w4) (by simp)
  go_upto_region 13 with fail
  go_region_held3 (fun W => W.cell? ⟨T, 0, none⟩ = some (.pointer (some ⟨F, 0, none⟩)) ∧ W.cell? ⟨T, 1, none⟩ = some (.string nm)) (first | assumption | exact s3) (first
    | (go_at_call 45; refine (slMet_any w6 T F nm _ false er HLB6.out).mono ?_; rintro e w7 ⟨rfl, hl7, hk7⟩; have HLb7 := Lib.hid hl7; have HK7 := Lib.hid hk7; have s7 : w7.cell? ⟨T, 0, none⟩ = some (.pointer (some ⟨F, 0, none⟩)) ∧ w7.cell? ⟨T, 1, none⟩ = some (.string nm) := ⟨hl7.c0, hl7.c1⟩; clear hl7 hk7)
    | (go_at_call 46; refine (HAp.out _ HK45.out).mono ?_; rintro e w6 ⟨er, rfl, h6⟩; have H6 := Lib.hid h6; have HKF : Hid (Kept (fun k => k ∈ foot F M ps4) w5 w6) := Lib.hid (by rcases h6 with ⟨_, _, hk⟩ | ⟨_, _, (⟨_, _, hw⟩ | ⟨_, _, hw⟩), _⟩; exact hk.mono fun _ _ e => e.elim; exact hw.kept; exact hw.kept); have HLB6 := Lib.hid ((HL4.out.stay HK45.out).lb.kept HKF.out HL4.out.nT); have s6 := HS.out w6 _ ((HK45.out.mono fun _ _ e => e.elim).trans' HKF.out) HL4.out.nT; clear h6)
    | (go_at_call 10; refine (HFi.out _).mono ?_; rintro e w5 ⟨rfl, hk⟩; have HK45 : Hid (Kept (fun _ => False) w4 w5) := (by first | exact Lib.hid hk | exact Lib.hid ((Kept.refl (fun _ => False) _).drew.trans' hk)); have s5 := HS.out w5 _ HK45.out (by simp); clear hk))
  clear s3 s5 s6 s7
  have HL5 := Lib.hid (HL4.out.stay HK45.out)
  have HM5 := Lib.hid (HMv.out.trans (MvL.stay HK45.out))
  rcases H6.out with ⟨rfl, hfull, hk6⟩ | ⟨ps6, c6, hw6, hd6⟩
  · have HL7 := Lib.hid ((HL5.out.stay hk6).turn (by simpa using HLb7.out) HK7.out)
    have HM7 := Lib.hid ((HM5.out.trans (MvL.stay hk6)).trans (MvL.turn HK7.out))
    have HFl := Lib.hid hfull
    clear hfull hk6
    go_wp2
    go_ret2
    rw [← HMs.out, ← HK0.out, ← HV4.out]
    refine ⟨14, ps4, _, _, _, _, false, rfl, HL7.out, HM7.out, fun q hq => HL7.out.rd q hq, HO4.out, decA0, by have := HU4.out; omega, .inr (.inl ⟨rfl, rfl, ?_, rfl, rfl, HDo.out⟩)⟩
    have h1 := HFl.out
    rw [frameB_len, Nat.add_comm xs.length, HU4.out] at h1
    exact h1
  · have HOth : Hid (∀ s, (∀ u, s ≠ fileB nm u) → lk ps6 s = lk ps s) := Lib.hid fun s hs => by rw [hd6, Disk.put_ne _ _ (hs nx), HO4.out s hs]
    have HD6 := Lib.hid (HDn.out ps6 hd6)
    rcases hw6 with ⟨rfl, ha, hw⟩ | ⟨rfl, ha, hw⟩
    · have HL7 := Lib.hid ((HL5.out.went hw).turn (by simpa using HLb7.out) HK7.out)
      have HM7 := Lib.hid ((HM5.out.trans (MvL.went hw)).trans (MvL.turn HK7.out))
      have HU := Lib.hid (HU5.out ps6 hw.at_.names hd6)
      have HAr := Lib.hid ha
      clear ha hw hd6
      go_wp2
      go_ret2
      rw [← HMs.out, ← HK0.out, ← HV4.out]
      exact ⟨13, ps6, c6, _, _, _, true, rfl, HL7.out, HM7.out, fun q hq => HL7.out.rd q hq, HOth.out, fun e => by rw [decA0 e] at HAr; exact absurd HAr.out (by decide), HU.out, .inr (.inr ⟨rfl, fun e => by rw [decA0 e] at HAr; exact absurd HAr.out (by decide), rfl, rfl, rfl, .inr HD6.out⟩)⟩
    · have HL7 := Lib.hid ((HL5.out.went hw).turn (by simpa using HLb7.out) HK7.out)
      have HM7 := Lib.hid ((HM5.out.trans (MvL.went hw)).trans (MvL.turn HK7.out))
      have HU := Lib.hid (HU5.out ps6 hw.at_.names hd6)
      clear ha hw hd6
      obtain ⟨Av, cv2, hvf⟩ := own_slice HL7.out.row
      rw [← HKl.out] at hvf
      have t2 := HL7.out.lb.c2
      have t2f := HL7.out.lb.fz 2
      have HLT7 := Lib.hid HL7.out.lb.lt
      have HRw : Hid (w7.ownsRow 0 61 3 v4 k0 (cellsM ms0)) := Lib.hid (by have := HL7.out.row; unfold RowM at this; rw [← HKl.out] at this; exact this)
      have hvT : Hid (v4.ownBlock ≠ some T) := Lib.hid (HL7.out.lb.noRow HL7.out.row (by decide))
      rw [hvf] at t2
      go_upto_region 17 with (at_builtin; refine wpList_append_e elemPt rfl _ _ rfl 0 v4 k0 (cellsM ms0) hvf.symm (own_kept HRw.out ((Kept.refl (fun _ => False) w7).alloc _) (by simp)) _ 1 1 [.int .u64 (nx : Nat), .slice none 0 0, .int .i64 0] rfl (cs_new _ _ _) rfl (by simp [Value.oneCell']) (fun e => by cases e) (by omega) (Nat.zero_le _) ?_; intro v8 w8 hown hgrow; obtain ⟨A8, c8, rfl⟩ := own_slice hown; have HO8 := Lib.hid hown; have HG8 := Lib.hid hgrow; have HK78 : Hid (Kept (fun k => v4.ownBlock = some k) w7 w8) := Lib.hid ((((Kept.refl (fun _ => False) w7).alloc _).mono fun _ _ e => e.elim).trans' hgrow.kept); have u2 : ∃ x, w8.cell? ⟨T, 2, none⟩ = some x := ⟨_, HK78.out.cell t2 hvT.out⟩; have u2f : w8.frozen? ⟨T, 2, none⟩ = false := (World.frozen?_of_block (HK78.out.block T HLT7.out hvT.out)).trans t2f; obtain ⟨x8, u2⟩ := u2; clear hown hgrow)
      obtain ⟨W9, hW9⟩ : ∃ W9, W9 = w8.setCell ⟨T, 2, none⟩ (.slice A8 (k0 + 1) c8) := ⟨_, rfl⟩
      have hMo := HL7.out.more (f := nx) (w1 := w8) (v' := .slice A8 (k0 + 1) c8) ((Kept.refl (fun _ => False) w7).alloc _) (by rw [← HKl.out]; exact HO8.out) HG8.out
      rw [← hW9] at hMo
      have HL9 := Lib.hid hMo.1
      have HM9 := Lib.hid (HM7.out.trans hMo.2)
      rw [← hW9]
      clear hMo hW9 t2 t2f u2 u2f
      obtain ⟨G2, cv9, hv9, hob9, hc9, -, -, hcell9⟩ := HL9.out.row.form (by simp)
      rw [List.length_append, List.length_singleton, ← HKl.out] at hv9 hc9
      simp only [Value.slice.injEq, true_and] at hv9
      obtain ⟨rfl, rfl⟩ := hv9
      obtain ⟨-, g1, g2⟩ := hcell9 k0 ⟨nx, none, 0, []⟩ (by rw [HKl.out]; simp)
      have hf9 : ∀ i, W9.frozen? ⟨G2, i, none⟩ = false := by
        obtain ⟨g9, c9', cur, h1, -, h2, -⟩ := (show (Value.slice (some ⟨G2, 0, none⟩) (k0 + 1) c8 = .slice none 0 0 ∧ (ms0 ++ [(⟨nx, none, 0, []⟩ : PM)]).length = 0) ∨ _ from HL9.out.row.2).resolve_left fun e => by cases e.1
        injection h1 with h1
        injection h1 with h1
        injection h1 with h1
        subst h1
        intro i
        simp [World.frozen?, h2]
      unfold PM.rv at g1
      simp only [List.length_nil] at g1
      have e0 : szP (⟨nx, none, 0, []⟩ : PM).prt = 0 := rfl
      rw [e0] at g2
      have HQ : Hid (∀ W S, Kept S W9 W → ¬ S G2 → W.cell? ⟨G2, k0 * 3 + 1, none⟩ = some (.slice none 0 0) ∧ W.cell? ⟨G2, k0 * 3 + 2, none⟩ = some (.int .i64 0) ∧ W.frozen? ⟨G2, k0 * 3 + 1, none⟩ = false ∧ W.frozen? ⟨G2, k0 * 3 + 2, none⟩ = false) := Lib.hid fun W S hk hS => ⟨hk.cell g1 hS, hk.cell g2 hS, (World.frozen?_of_block (hk.block G2 (World.block_lt_of_cell? W9 _ g1) hS)).trans (hf9 _), (World.frozen?_of_block (hk.block G2 (World.block_lt_of_cell? W9 _ g1) hS)).trans (hf9 _)⟩
      have HLa9 := Lib.hid (slLast_some W9 T F nm G2 k0 c8 false HL9.out.lb (by omega) hc9)
      have HOb9 := Lib.hid hob9
      have hwz : IntKind.i64.wrap (n2 : Int) = (n2 : Int) := by rw [IntKind.wrap_i64]; omega
      have hK39 : Kept (LFoot T F M ps v4 ms0) w W9 := HM9.out.kept
      have HCl : Hid (∀ W, Kept (fun _ => False) W9 W → Calls Tryz.prog 39 #[.slice A n c] W (ClonePost W xs)) := Lib.hid fun W hW => clone_any W A n c xs HP.out.xn (by have := HP.out.short; have := HP.out.xn; omega) (HP.out.x W (by
        have h1 : Kept (LFoot T F M ps v4 ms0) w W := hK39.trans hW fun _ _ e => e.elim
        rw [HV4.out, HK0.out, HMs.out] at h1
        exact h1)) HP.out.xA
      have HFin : Hid (∀ (W7 W8 : World) (A7 A8' : Option Addr) (c7 c8' : Nat), Kept (fun _ => False) W9 W7 → W7.ownsRow W9.heap.size 5 1 (.slice A7 xs.length c7) xs.length (xs.map bv) → W8.ownsRow 0 30 1 (.slice A8' 1 c8') 1 [.slice A7 xs.length c7] → Grew W7 W8 (.slice none 0 0) (.slice A8' 1 c8') →
          LAppPost w T F M nm ps lim arm v4 ms0 sf xs (.returned (.tuple #[.int .u64 (nx : Nat), .int .i64 0])) ((W8.setCell ⟨G2, k0 * 3 + 1, none⟩ (.slice A8' 1 c8')).setCell ⟨G2, k0 * 3 + 2, none⟩ (.int .i64 (n2 : Nat)))) := Lib.hid fun W7 W8 A7 A8' c7 c8' hk7 ho7 ho8 hg8 => by
        have hR := HL9.out.recd (r := ⟨A7, c7, xs⟩) hk7 HOb9.out ho7 ho8 hg8
        rw [← HKl.out, e0, show 0 + (16 + (⟨A7, c7, xs⟩ : BV).b.length) = n2 by rw [Hn2.out]; simp] at hR
        obtain ⟨hR1, hR2, hR3⟩ := hR
        refine ⟨0, ps6, c6, _, ms0 ++ [⟨nx, A8', c8', [⟨A7, c7, xs⟩]⟩], _, false, ?_, hR1, HM9.out.trans hR2, fun q hq => ?_, HOth.out, fun e => by rw [decA0 (decA0 e)], HU.out, .inl ⟨rfl, rfl, ?_, HD6.out⟩⟩
        · rw [if_pos rfl, HNxq.out]
        · exact hR1.rd q (List.mem_append_left _ hq)
        · rw [prts_snoc, HLpn.out]; rfl
      clear hcell9 hf9 hob9 hK39 hc9 e0
      go_upto_region 21 with (go_at_call 44; refine HLa9.out.mono ?_; rintro e w10 ⟨rfl, m7, hw10⟩; have HK90 : Hid (Kept (fun _ => False) W9 w10) := Lib.hid (by rw [hw10]; exact (Kept.refl _ _).drewN _); obtain ⟨k1, k2, k3, k4⟩ := HQ.out w10 _ HK90.out (by simp); clear hw10)
      clear g1 g2
      go_region_law (first
        | (refine step_append_e elemBs rfl _ _ rfl 0 (.slice none 0 0) 0 [] rfl (World.ownsRow_nil _ _ _ _) _ 1 1 [.slice A7 xs.length c7] rfl (cs_new _ _ _) rfl (by simp [Value.oneCell']) (fun e => by cases e) (by omega) (Nat.zero_le _) ?_; intro v12 w12 hown hgrow; obtain ⟨A12, c12, rfl⟩ := own_slice hown; have HO12 := Lib.hid hown; have HG12 := Lib.hid hgrow; obtain ⟨k1, k2, k3, k4⟩ := HQ.out w12 _ (((HK97.out.alloc _).mono fun _ _ e => e.elim).trans' hgrow.kept) (by simp [Value.ownBlock]); clear hown hgrow)
        | (go_simp; go_at_call 39; refine (HCl.out _ (by first | exact HK90.out | exact HK90.out.drew)).mono ?_; rintro e w11 hP7; obtain ⟨A7, c7, rfl, ha7, hb7, hc7⟩ := ClonePost.acc hP7; have HA7 := Lib.hid ha7; have HK97 : Hid (Kept (fun _ => False) W9 w11) := (by first | exact Lib.hid (HK90.out.trans' ha7.2) | exact Lib.hid (HK90.out.drew.trans' ha7.2)); obtain ⟨k1, k2, k3, k4⟩ := HQ.out w11 _ HK97.out (by simp); have hlt7 : G2 < w11.heap.size := World.block_lt_of_cell? w11 _ k2; clear hP7 ha7 hb7 hc7))
      all_goals
        have HX := Lib.hid (HFin.out _ _ _ _ _ _ (HK97.out.alloc (.cells #[.slice A7 xs.length c7] 30)) (own_kept (own_low HA7.out.1 HK90.out.size) ((Kept.refl (fun _ => False) w11).alloc _) (by simp)) HO12.out HG12.out)
        clear k1 k2 k3 k4 hlt7
        go_wp2_with fail
        go_ret2
        rw [← HMs.out, ← HK0.out, ← HV4.out]
        exact HX.out
end Go.Proofs.YtibalgfejfjndaaGreatDoor
end
