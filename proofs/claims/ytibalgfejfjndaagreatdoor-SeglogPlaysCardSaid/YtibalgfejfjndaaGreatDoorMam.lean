import Derived.Test.YtibalgfejfjndaaGreatDoorMal
import Derived.Deep.RegionLaw
/-! A log's Append, into the last segment. -/
section
set_option linter.unusedVariables false
set_option linter.unusedSimpArgs false
namespace Go.Proofs.YtibalgfejfjndaaGreatDoor
open Go.RowKit

/-- How much of the last segment is safe behind a record more. -/
def sfPut (G : List Prt) (sf : Nat) : Nat := match G.getLast? with
  | none => 0
  | some p => if 2048 ≤ szP p then 0 else sf
/-- What Append answers and leaves. -/
def LAppPost (w : World) (T F M : Nat) (nm : ByteArray) (ps : List PF) (lim arm : Int) (v : Value) (ms : List PM) (sf : Nat) (xs : List UInt8) (e : Ending) (w' : World) : Prop :=
  ∃ er ps' c' v' ms' arm' dn', e = .returned (.tuple #[.int .u64 (if er = 0 then ((nxtP (prts ms) : Nat) : Int) else 0), .int .i64 er]) ∧ LG w' T F M nm ps' c' lim arm' dn' v' ms' dn' ∧ MvL w T F M ps v ms ps' v' ms' w' ∧ (∀ q ∈ ms, BBs w' q.A q.rs) ∧
    (∀ s, (∀ u, s ≠ fileB nm u) → lk ps' s = lk ps s) ∧ (arm = 0 → arm' = 0) ∧ usedL ps' ≤ usedL ps + (16 + xs.length) ∧
    ((er = 0 ∧ dn' = false ∧ prts ms' = logPut (prts ms) xs ∧ LogD (lk ps') nm (logPut (prts ms) xs) [] (sfPut (prts ms) sf)) ∨
     (er = 14 ∧ dn' = false ∧ lim < ((16 + xs.length : Nat) : Int) + (usedL ps : Int) ∧ ms' = ms ∧ v' = v ∧ ∃ sf', sf ≤ sf' ∧ LogD (lk ps') nm (prts ms) [] sf') ∨
     (er = 13 ∧ arm ≠ 0 ∧ dn' = true ∧ ms' = ms ∧ v' = v ∧ (LogD (lk ps') nm (prts ms) [] sf ∨ LogD (lk ps') nm (logPut (prts ms) xs) [] (sfPut (prts ms) sf))))
/-- What Append wants. -/
structure LAppPre (w : World) (T F M : Nat) (nm : ByteArray) (ps : List PF) (v : Value) (ms : List PM) (sf : Nat) (A : Option Addr) (n c : Nat) (xs : List UInt8) : Prop where
  cont : Cont (prts ms)
  ld : LogD (lk ps) nm (prts ms) [] sf
  sfl : ∀ a q, prts ms = a ++ [q] → sf ≤ szP q
  few : ms.length ≤ 100000
  fewR : ∀ p ∈ ms, p.rs.length ≤ 100000
  sz : ∀ p ∈ ms, szP p.prt ≤ 1000000000
  next : nxtP (prts ms) ≤ 1000000000
  nms : nm.size ≤ 1000000
  full : ∀ u, fullB (fileB nm u) = true
  used : usedL ps ≤ 4194304
  x : ∀ W, Kept (LFoot T F M ps v ms) w W → Bs W A xs
  xn : n = xs.length
  xA : A = none → c = 0
  short : xs.length ≤ 32768
theorem prts_snoc (ms : List PM) (p : PM) : prts (ms ++ [p]) = prts ms ++ [p.prt] := by simp [prts]
theorem size_fileB (nm : ByteArray) (u : Nat) : (fileB nm u).size = nm.size + 18 := by
  show (fileL nm.data.toList u).toArray.size = _
  rw [List.size_toArray, fileL_len, Array.length_toList]; rfl
theorem small_disk {d : Disk} {nm : ByteArray} {G : List Prt} {q : Prt} {sf : Nat} (xs : List UInt8) (hc : Cont (G ++ [q])) (hd : LogD d nm (G ++ [q]) [] sf) (hs : szP q < 2048) (h64 : q.1 < 18446744073709551616) :
    LogD (d.put (fileB nm q.1) (some ((oldB (d (fileB nm q.1))).1 ++ frameB (endP q) xs, (oldB (d (fileB nm q.1))).2))) nm (logPut (G ++ [q]) xs) [] (sfPut (G ++ [q]) sf) := by
  have h1 : d (fileB nm q.1) = some (frsP q ++ [], sf) := by rw [hd q.1 h64]; exact lookP_last hc
  have h2 : logPut (G ++ [q]) xs = G ++ [(q.1, q.2 ++ [xs])] := by rw [logPut_snoc, if_neg (by omega)]
  have h3 : sfPut (G ++ [q]) sf = sf := by unfold sfPut; rw [List.getLast?_concat]; simp only; rw [if_neg (by omega)]
  have h4 := hd.last (p' := (q.1, q.2 ++ [xs])) (t' := []) (sf' := sf) (Cont.turn hc rfl) rfl h64
  rw [h2, h3, h1]
  rw [frsP_snoc, List.append_nil] at h4
  simpa [oldB] using h4
set_option maxRecDepth 100000 in
set_option maxHeartbeats 8000000 in
theorem slAppend_small (w : World) (T F M : Nat) (nm : ByteArray) (ps : List PF) (clock : Nat) (lim arm : Int) (v : Value) (ms : List PM) (p : PM) (sf : Nat) (A : Option Addr) (n c : Nat) (xs : List UInt8) (h : LG w T F M nm ps clock lim arm false v (ms ++ [p]) false)
    (hp : LAppPre w T F M nm ps v (ms ++ [p]) sf A n c xs) (hs : szP p.prt < 2048) :
    Calls Tryz.prog 17 #[.pointer (some ⟨T, 0, none⟩), .slice A n c] w (LAppPost w T F M nm ps lim arm v (ms ++ [p]) sf xs) := by
  have H := Lib.hid h
  have HP := Lib.hid hp
  have HR := Lib.hid (slReady_ok w T F M nm v lim arm h.lb h.f.fb)
  obtain ⟨G, cv, rfl, hob, hc, hc9, hG, hcell⟩ := h.row.form (by simp)
  obtain ⟨m, hm⟩ : ∃ m, m = ms.length := ⟨_, rfl⟩
  have hlen : (ms ++ [p]).length = m + 1 := by rw [hm]; simp
  rw [hlen] at hc H HP
  rw [hlen]
  have hm9 : m ≤ 100000 := by have := hp.few; rw [hlen] at this; omega
  have hpp : (ms ++ [p])[m]? = some p := by rw [hm]; simp
  obtain ⟨g0, g1, g2⟩ := hcell m p hpp
  have hnx : nxtP (prts (ms ++ [p])) = p.first + p.rs.length := by rw [prts_snoc, nxtP_snoc]; simp [endP, PM.prt]
  have hnx9 : p.first + p.rs.length ≤ 1000000000 := by have := hp.next; omega
  obtain ⟨nx, hnxe⟩ : ∃ nx, nx = p.first + p.rs.length := ⟨_, rfl⟩
  have HNx := Lib.hid (slNext_some w T F nm G m cv p.first p.rs.length p.c p.A false H.out.lb (by omega) hc g0 g1 (by omega))
  rw [← hnxe] at HNx
  have HLa : Hid (∀ W, Kept (fun _ => False) w W → Calls Tryz.prog 44 #[.pointer (some ⟨T, 0, none⟩)] W fun e w' => e = .returned (.pointer (some ⟨G, m * 3, none⟩)) ∧ ∃ m, w' = W.drewN m) := Lib.hid fun W hW => slLast_some W T F nm G m cv false (H.out.lb.kept hW (by simp)) (by omega) hc
  have HMk : Hid (∀ W, Kept (fun _ => False) w W → Calls Tryz.prog 43 #[.int .u64 (nx : Nat), .slice A n c] W fun e w' => ∃ v, e = .returned (.tuple #[v, .int .i64 0]) ∧ w'.ownsRow W.heap.size 5 1 v (frameB nx xs).length ((frameB nx xs).map bv) ∧ Kept (fun _ => False) W w') := Lib.hid fun W hW => make_any W nx A n c xs (by omega) HP.out.xn (by have := HP.out.short; have := HP.out.xn; omega) (HP.out.x W (hW.mono fun _ _ e => e.elim)) HP.out.xA
  have HFi : Hid (∀ W, Calls Tryz.prog 10 #[.string nm, .int .u64 (p.first : Nat)] W fun e w' => e = .returned (.string (fileB nm p.first)) ∧ Kept (fun _ => False) W w') := Lib.hid fun W => slFile_any W nm p.first HP.out.nms (by omega)
  have HGf : Hid (G ∉ foot F M ps ∧ G ≠ T) := Lib.hid ⟨H.out.nv G hob, fun e => H.out.lb.noRow H.out.row (by decide) (e ▸ hob)⟩
  have c0 := H.out.lb.c0
  have c1 := H.out.lb.c1
  have HS : Hid (∀ W S, Kept S w W → ¬ S T → ¬ S G → W.cell? ⟨T, 0, none⟩ = some (.pointer (some ⟨F, 0, none⟩)) ∧ W.cell? ⟨T, 1, none⟩ = some (.string nm) ∧ W.cell? ⟨G, m * 3, none⟩ = some (.int .u64 (p.first : Nat))) := Lib.hid fun W S hk hS hG => ⟨hk.cell c0 hS, hk.cell c1 hS, hk.cell g0 hG⟩
  obtain ⟨sz, hsz⟩ : ∃ sz, sz = szP p.prt := ⟨_, rfl⟩
  rw [← hsz] at g2 hs
  have HS2 : Hid (∀ W S, Kept S w W → ¬ S G → W.cell? ⟨G, m * 3 + 1, none⟩ = some p.rv ∧ W.cell? ⟨G, m * 3 + 2, none⟩ = some (.int .i64 (sz : Nat))) := Lib.hid fun W S hk hG => ⟨hk.cell g1 hG, hk.cell g2 hG⟩
  have hsI : (sz : Int) < 2048 := by omega
  have HSz := Lib.hid hsz
  have HNxe := Lib.hid hnxe
  have HNxp := Lib.hid hnx
  have HNx9 := Lib.hid hnx9
  have HM := Lib.hid hm
  have HOb := Lib.hid hob
  clear h hp hcell hpp hob hlen hm hc9 hnx hnx9 hnxe hsz hs g0 g1 g2 c0 c1 hG
  go_enter Tryz.func17, Tryz.ntmps17
  go_upto_region 5 with (first | (go_at_call 42; refine HR.out.mono ?_; rintro e w ⟨rfl, rfl⟩) | (go_at_call 18; refine HNx.out.mono ?_; rintro e w1 ⟨rfl, m9, hw1⟩; have HK1 : Hid (Kept (fun _ => False) w w1) := Lib.hid (by rw [hw1]; exact (Kept.refl _ _).drewN _); clear hw1))
  go_upto_region 9 with (first | (go_at_call 43; refine (HMk.out _ HK1.out).mono ?_; rintro e w2 ⟨vb, rfl, hob, hk⟩; have HO2 := Lib.hid hob; have HK2 := Lib.hid (HK1.out.trans' hk); have HK12 := Lib.hid hk; clear hob hk) | (go_at_call 44; refine (HLa.out _ HK2.out).mono ?_; rintro e w3 ⟨rfl, m8, hw3⟩; have HK23 : Hid (Kept (fun _ => False) w2 w3) := Lib.hid (by rw [hw3]; exact (Kept.refl _ _).drewN _); have HK3 := Lib.hid (HK2.out.trans' HK23.out); have s3 := HS.out w3 _ HK3.out (by simp) (by simp); have s4 := (HS2.out w3 _ HK3.out (by simp)).2; clear hw3))
  obtain ⟨A2, c2, rfl⟩ := own_slice HO2.out
  obtain ⟨n2, hn2⟩ : ∃ n2, n2 = (frameB nx xs).length := ⟨_, rfl⟩
  obtain ⟨Ax, cx, hAx, -, hbx, hAn, hbo⟩ := Bs.of_own HO2.out
  rw [← hn2] at hAx
  simp only [Value.slice.injEq] at hAx
  obtain ⟨rfl, -, rfl⟩ := hAx
  have hn29 : n2 = 16 + xs.length := by rw [hn2, frameB_len]; omega
  have hn2b : n2 ≤ 40000 := by have := HP.out.short; omega
  have HAp : Hid (∀ W, Kept (fun _ => False) w3 W → Calls Tryz.prog 46 #[.pointer (some ⟨F, 0, none⟩), .string (fileB nm p.first), .slice A2 n2 c2] W fun e w' => ∃ er, e = .returned (.int .i64 er) ∧ AppR W F M ps lim arm (fileB nm p.first) (frameB nx xs) er w') := Lib.hid fun W hW => appR_any (fileB nm p.first) A2 n2 c2 (frameB nx xs) ((H.out.stay HK3.out).stay hW).f (by rw [size_fileB]; have := HP.out.nms; omega) (HP.out.full _) HP.out.used ((hbx.kept HK23.out (by simp)).kept hW (by simp)) hn2 (by omega) hAn fun ad e => .inr fun e2 => by
    have h1 := own_ge HO2.out ad.block (by rw [e]; rfl)
    have h2 := H.out.f.lt M (by simp [foot])
    have h3 := HK1.out.size
    omega
  rw [← hn2]
  have Hn2 := Lib.hid hn29
  have Hn2e := Lib.hid hn2
  clear hn2 hn29 hbx hAn hbo
  go_upto_region 18 with fail
  clear s4
  go_region_held3 (fun W => W.cell? ⟨T, 0, none⟩ = some (.pointer (some ⟨F, 0, none⟩)) ∧ W.cell? ⟨T, 1, none⟩ = some (.string nm) ∧ W.cell? ⟨G, m * 3, none⟩ = some (.int .u64 (p.first : Nat))) (first | assumption | exact s3) (first
    | (go_at_call 45; refine (slMet_any w5 T F nm _ false er HLB5.out).mono ?_; rintro e w6 ⟨rfl, hl6, hk6⟩; have HL6 := Lib.hid hl6; have HK6 := Lib.hid hk6; have s6 : w6.cell? ⟨T, 0, none⟩ = some (.pointer (some ⟨F, 0, none⟩)) ∧ w6.cell? ⟨T, 1, none⟩ = some (.string nm) ∧ w6.cell? ⟨G, m * 3, none⟩ = some (.int .u64 (p.first : Nat)) := ⟨hl6.c0, hl6.c1, hk6.cell s5.2.2 HGf.out.2⟩; clear hl6 hk6)
    | (go_at_call 46; refine (HAp.out _ HK34.out).mono ?_; rintro e w5 ⟨er, rfl, h5⟩; have H5 := Lib.hid h5; have HKF : Hid (Kept (fun k => k ∈ foot F M ps) w4 w5) := Lib.hid (by rcases h5 with ⟨_, _, hk⟩ | ⟨_, _, (⟨_, _, hw⟩ | ⟨_, _, hw⟩), _⟩; exact hk.mono fun _ _ e => e.elim; exact hw.kept; exact hw.kept); have HLB5 := Lib.hid (((H.out.stay HK3.out).stay HK34.out).lb.kept HKF.out H.out.nT); have s5 := HS.out w5 _ (((HK3.out.trans' HK34.out).mono fun _ _ e => e.elim).trans' HKF.out) H.out.nT HGf.out.1; clear h5)
    | (go_at_call 10; refine (HFi.out _).mono ?_; rintro e w4 ⟨rfl, hk⟩; have HK34 : Hid (Kept (fun _ => False) w3 w4) := (by first | exact Lib.hid hk | exact Lib.hid ((Kept.refl (fun _ => False) _).drew.trans' hk)); have s4 := HS.out w4 _ (HK3.out.trans' HK34.out) (by simp) (by simp); clear hk))
  have hgot : lk ps (fileB nm p.first) = some (frsP p.prt ++ [], sf) := by
    rw [HP.out.ld p.first (by have := HNx9.out; omega), prts_snoc]
    exact lookP_last (by have := HP.out.cont; rwa [prts_snoc] at this)
  have HD := Lib.hid (small_disk (d := lk ps) (nm := nm) (G := prts ms) (q := p.prt) (sf := sf) xs (by have := HP.out.cont; rwa [prts_snoc] at this) (by have := HP.out.ld; rwa [prts_snoc] at this) (by rw [← HSz.out]; omega) (by have := HNx9.out; show p.first < _; omega))
  have HGot := Lib.hid hgot
  have HUse : Hid (∀ ps' : List PF, (ps'.map PF.name).Nodup → lk ps' = (lk ps).put (fileB nm p.first) (some ((oldB (lk ps (fileB nm p.first))).1 ++ frameB nx xs, (oldB (lk ps (fileB nm p.first))).2)) → usedL ps' ≤ usedL ps + (16 + xs.length)) := Lib.hid fun ps' hn' he => by
    have := used_put H.out.f.names hn' he
    rw [HGot.out] at this
    simp only [oldB, Option.getD_some, szV, List.length_append, frameB_len] at this
    omega
  have HNx1 : Hid (nx = endP p.prt) := Lib.hid (by rw [HNxe.out]; simp [endP, PM.prt])
  clear hgot s3 s4 s5 s6
  have hM4 : MvL w T F M ps (.slice (some ⟨G, 0, none⟩) (m + 1) cv) (ms ++ [p]) ps (.slice (some ⟨G, 0, none⟩) (m + 1) cv) (ms ++ [p]) w4 := MvL.stay (HK3.out.trans' HK34.out)
  have HM4 := Lib.hid hM4
  have H4 := Lib.hid ((H.out.stay HK3.out).stay HK34.out)
  clear hM4
  rcases H5.out with ⟨rfl, hfull, hk5⟩ | ⟨ps5, c5, hw5, hd5⟩
  · have H6 := Lib.hid ((H4.out.stay hk5).turn (by simpa using HL6.out) HK6.out)
    have HM6 := Lib.hid ((HM4.out.trans (MvL.stay hk5)).trans (MvL.turn HK6.out))
    have HFl := Lib.hid hfull
    clear hfull hk5
    go_wp2
    go_ret2
    refine ⟨14, ps, clock, _, _, arm, false, rfl, H6.out, HM6.out, fun q hq => H6.out.rd q hq, fun s hs => rfl, fun e => e, by omega, .inr (.inl ⟨rfl, rfl, ?_, rfl, rfl, sf, Nat.le_refl _, HP.out.ld⟩)⟩
    have := HFl.out
    rw [frameB_len, Nat.add_comm xs.length] at this
    exact this
  · have HOth : Hid (∀ s, (∀ u, s ≠ fileB nm u) → lk ps5 s = lk ps s) := Lib.hid fun s hs => by rw [hd5, Disk.put_ne _ _ (hs p.first)]
    have HD5 : Hid (LogD (lk ps5) nm (logPut (prts (ms ++ [p])) xs) [] (sfPut (prts (ms ++ [p])) sf)) := Lib.hid (by rw [hd5, prts_snoc, HNx1.out]; exact HD.out)
    rcases hw5 with ⟨rfl, ha, hw⟩ | ⟨rfl, ha, hw⟩
    · have H6 := Lib.hid ((H4.out.went hw).turn (by simpa using HL6.out) HK6.out)
      have HM6 := Lib.hid ((HM4.out.trans (MvL.went hw)).trans (MvL.turn HK6.out))
      have HU := Lib.hid (HUse.out ps5 hw.at_.names hd5)
      have HAr := Lib.hid ha
      clear ha hw hd5
      go_wp2
      go_ret2
      exact ⟨13, ps5, c5, _, _, _, true, rfl, H6.out, HM6.out, fun q hq => H6.out.rd q hq, HOth.out, decA0, HU.out, .inr (.inr ⟨rfl, by rw [HAr.out]; decide, rfl, rfl, rfl, .inr HD5.out⟩)⟩
    · have H6 := Lib.hid ((H4.out.went hw).turn (by simpa using HL6.out) HK6.out)
      have HM6 := Lib.hid ((HM4.out.trans (MvL.went hw)).trans (MvL.turn HK6.out))
      have HU := Lib.hid (HUse.out ps5 hw.at_.names hd5)
      have HK16 : Hid (Kept (LFoot T F M ps (.slice (some ⟨G, 0, none⟩) (m + 1) cv) (ms ++ [p])) w w6) := Lib.hid HM6.out.kept
      clear ha hw hd5
      have HCl : Hid (∀ W, Kept (fun _ => False) w6 W → Calls Tryz.prog 39 #[.slice A n c] W (ClonePost W xs)) := Lib.hid fun W hW => clone_any W A n c xs HP.out.xn (by have := HP.out.short; have := HP.out.xn; omega) (HP.out.x W (HK16.out.trans hW fun _ _ e => e.elim)) HP.out.xA
      have hpm : p ∈ ms ++ [p] := by simp
      obtain ⟨rl, hrl⟩ : ∃ rl, rl = p.rs.length := ⟨_, rfl⟩
      have hrl9 : rl ≤ 100000 := by rw [hrl]; exact HP.out.fewR p hpm
      have HRl := Lib.hid hrl
      obtain ⟨G', cv', hv', -, -, -, -, hcell6⟩ := H6.out.row.form (by simp)
      simp only [Value.slice.injEq, Option.some.injEq, Addr.mk.injEq, and_true] at hv'
      obtain ⟨rfl, -, -⟩ := hv'
      obtain ⟨-, g1, g2⟩ := hcell6 m p (by rw [HM.out]; simp)
      have hf6 : ∀ i, w6.frozen? ⟨G, i, none⟩ = false := by
        obtain ⟨g9, c9, cur, h1, -, h2, -⟩ := (show (Value.slice (some ⟨G, 0, none⟩) (m + 1) cv = .slice none 0 0 ∧ (ms ++ [p]).length = 0) ∨ _ from H6.out.row.2).resolve_left fun e => by cases e.1
        injection h1 with h1
        injection h1 with h1
        injection h1 with h1
        subst h1
        intro i
        simp [World.frozen?, h2]
      unfold PM.rv at g1
      rw [← hrl] at g1
      rw [← HSz.out] at g2
      have HQ : Hid (∀ W S, Kept S w6 W → ¬ S G → W.cell? ⟨G, m * 3 + 1, none⟩ = some (.slice p.A rl p.c) ∧ W.cell? ⟨G, m * 3 + 2, none⟩ = some (.int .i64 (sz : Nat)) ∧ W.frozen? ⟨G, m * 3 + 1, none⟩ = false ∧ W.frozen? ⟨G, m * 3 + 2, none⟩ = false) := Lib.hid fun W S hk hS => ⟨hk.cell g1 hS, hk.cell g2 hS, by rw [World.frozen?_of_block (hk.block G (World.block_lt_of_cell? w6 _ g1) hS)]; exact hf6 _, by rw [World.frozen?_of_block (hk.block G (World.block_lt_of_cell? w6 _ g1) hS)]; exact hf6 _⟩
      obtain ⟨z, hz⟩ : ∃ z, z = sz + n2 := ⟨_, rfl⟩
      have hwz : IntKind.i64.wrap ((sz : Int) + (n2 : Int)) = (z : Int) := by rw [IntKind.wrap_i64]; omega
      have HZ := Lib.hid hz
      have HRow : Hid (w6.ownsRow 0 30 1 (.slice p.A rl p.c) rl (p.rs.map BV.val)) := Lib.hid (by have := H6.out.rr p hpm; unfold PM.rv at this; rw [← hrl] at this; exact this)
      have HGp : Hid (¬ (Value.slice p.A rl p.c).ownBlock = some G) := Lib.hid fun e => own_two (by decide) HRow.out H6.out.row G e HOb.out
      have HFin : Hid (∀ (W7 W8 : World) (A7 A8 : Option Addr) (c7 c8 : Nat), Kept (fun _ => False) w6 W7 → W7.ownsRow w6.heap.size 5 1 (.slice A7 xs.length c7) xs.length (xs.map bv) → W8.ownsRow 0 30 1 (.slice A8 (rl + 1) c8) (rl + 1) (p.rs.map BV.val ++ [.slice A7 xs.length c7]) → Grew W7 W8 (.slice p.A rl p.c) (.slice A8 (rl + 1) c8) →
          LAppPost w T F M nm ps lim arm (.slice (some ⟨G, 0, none⟩) (m + 1) cv) (ms ++ [p]) sf xs (.returned (.tuple #[.int .u64 (nx : Nat), .int .i64 0])) ((W8.setCell ⟨G, m * 3 + 1, none⟩ (.slice A8 (rl + 1) c8)).setCell ⟨G, m * 3 + 2, none⟩ (.int .i64 (z : Nat)))) := Lib.hid fun W7 W8 A7 A8 c7 c8 hk7 ho7 ho8 hg8 => by
        have hR := H6.out.recd (r := ⟨A7, c7, xs⟩) hk7 HOb.out ho7 (by rw [← HRl.out]; exact ho8) (by rw [← HRl.out]; unfold PM.rv; rw [← HRl.out]; exact hg8)
        rw [← HM.out, ← HRl.out, ← HSz.out, show sz + (16 + (⟨A7, c7, xs⟩ : BV).b.length) = z by rw [HZ.out, Hn2.out]] at hR
        obtain ⟨hR1, hR2, hR3⟩ := hR
        refine ⟨0, ps5, c5, _, ms ++ [⟨p.first, A8, c8, p.rs ++ [⟨A7, c7, xs⟩]⟩], decA arm, false, ?_, hR1, HM6.out.trans hR2, fun q hq => ?_, HOth.out, decA0, HU.out, .inl ⟨rfl, rfl, ?_, HD5.out⟩⟩
        · rw [if_pos rfl, HNxp.out, ← HNxe.out]
        · rcases List.mem_append.1 hq with hq | hq
          · exact hR1.rd q (List.mem_append_left _ hq)
          · rw [List.mem_singleton.1 hq]; exact hR3
        · rw [prts_snoc, prts_snoc, logPut_snoc, if_neg (by rw [← HSz.out]; omega)]
          simp [PM.prt]
      clear hpm hrl hcell6 hf6 hz
      go_upto_region 21 with fail
      go_region_law (first
        | (refine step_append_e elemBs rfl _ _ rfl 0 (.slice p.A rl p.c) rl (p.rs.map BV.val) rfl (own_kept HRow.out (HK67.out.alloc _) (by simp)) _ 1 1 [.slice A7 xs.length c7] rfl (cs_new _ _ _) rfl (by simp [Value.oneCell']) (fun e => by cases e) (by omega) (Nat.zero_le _) ?_; intro v8 w8 hown hgrow; obtain ⟨A8, c8, rfl⟩ := own_slice hown; have HO8 := Lib.hid hown; have HG8 := Lib.hid hgrow; obtain ⟨k1, k2, k3, k4⟩ := HQ.out w8 _ (((HK67.out.alloc _).mono fun _ _ e => e.elim).trans' hgrow.kept) HGp.out; clear hown hgrow)
        | (go_simp; go_at_call 39; refine (HCl.out _ (by first | exact Kept.refl _ _ | exact (Kept.refl _ _).drew)).mono ?_; rintro e w7 hP7; obtain ⟨A7, c7, rfl, ha7, hb7, hc7⟩ := ClonePost.acc hP7; have HA7 := Lib.hid ha7; have HK67 : Hid (Kept (fun _ => False) w6 w7) := (by first | exact Lib.hid ha7.2 | exact Lib.hid ((Kept.refl (fun _ => False) _).drew.trans' ha7.2)); obtain ⟨k1, k2, k3, k4⟩ := HQ.out w7 _ HK67.out (by simp); have hlt7 : G < w7.heap.size := World.block_lt_of_cell? w7 _ k2; clear hP7 ha7 hb7 hc7))
      all_goals
        have HX := Lib.hid (HFin.out _ _ _ _ _ _ (HK67.out.alloc (.cells #[.slice A7 xs.length c7] 30)) (own_kept (own_low HA7.out.1 (by first | exact Nat.le_refl _ | exact (Kept.refl (fun _ => False) w6).drew.size)) ((Kept.refl (fun _ => False) w7).alloc _) (by simp)) HO8.out HG8.out)
        clear k1 k2 k3 k4 hlt7 g1 g2
        go_wp2_with fail
        go_ret2
        exact HX.out
end Go.Proofs.YtibalgfejfjndaaGreatDoor
end
