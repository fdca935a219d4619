import Derived.Test.YtibalgfejfjndaaGreatDoorMap
/-! seglog.Open: the log whose files are there. -/
section
set_option linter.unusedVariables false
set_option linter.unusedSimpArgs false
namespace Go.Proofs.YtibalgfejfjndaaGreatDoor
open Go.RowKit

/-- How much of the last segment is safe behind Open. -/
def sfNorm (D : List Prt) (sf : Nat) : Nat := match D.getLast? with
  | none => 0
  | some p => if p.2 = [] ∧ (1 < D.length ∨ p.1 = 0) then ((D.dropLast.getLast?).map szP).getD 0 else min sf (szP p)
def OpenLPost (w : World) (F M : Nat) (nm : ByteArray) (ps : List PF) (lim arm : Int) (D : List Prt) (sf : Nat) (e : Ending) (w' : World) : Prop :=
  (∃ T v ms ps' c' arm', e = .returned (.tuple #[.pointer (some ⟨T, 0, none⟩), .int .i64 0]) ∧ w.heap.size ≤ T ∧ LG w' T F M nm ps' c' lim arm' false v ms false ∧ prts ms = logNorm D ∧ (∀ k, LFoot T F M ps' v ms k → k ∈ foot F M ps ∨ w.heap.size ≤ k) ∧ Kept (fun k => k ∈ foot F M ps) w w' ∧
    LogD (lk ps') nm (logNorm D) [] (sfNorm D sf) ∧ (∀ s, (∀ u, s ≠ fileB nm u) → lk ps' s = lk ps s) ∧ (arm = 0 → arm' = 0) ∧ usedL ps' ≤ usedL ps) ∨
  (∃ ps' c', e = .returned (.tuple #[.pointer none, .int .i64 13]) ∧ arm = 1 ∧ Went w F M ps ps' c' lim (decA arm) true w' ∧ lk ps' = lk ps)
/-- What Open wants. -/
structure OpenLPre (ps : List PF) (nm : ByteArray) (D : List Prt) (t : List UInt8) (sf : Nat) : Prop where
  cont : Cont D
  ld : LogD (lk ps) nm D t sf
  tail : ∀ a q, D = a ++ [q] → PartF (endP q) t ∧ sf ≤ szP q + t.length
  short : ShortR D
  sz : ∀ p ∈ D, szP p ≤ 1000000
  few : D.length ≤ 100000
  next : nxtP D ≤ 1000000000
  nms : nm.size ≤ 82
  full : fullB nm = true
  psn : ps.length ≤ 100000
  pss : ∀ p ∈ ps, p.name.size ≤ 1000000
theorem own_capn {w : World} {base e size n m c : Nat} {A : Option Addr} {xs : List Value} (h : w.ownsRow base e size (.slice A m c) n xs) : n ≤ c := by
  rcases h.2 with ⟨hv, h0⟩ | ⟨g, cap, cur, hv, _, _, h1, _⟩
  · omega
  · simp only [Value.slice.injEq] at hv
    omega
/-- What is left behind the segment number j. -/
def EndP (nm : ByteArray) (ps psx : List PF) (c cx : Nat) (arm armx : Int) (D : List Prt) (sf ln j : Nat) (q : Prt) : Prop :=
  (j + 1 < ln ∧ D.take j ++ [q] = D.take (j + 1) ∧ psx = ps ∧ cx = c ∧ armx = arm) ∨ (j + 1 = ln ∧ D.take j ++ [q] = logNorm D ∧ LogD (lk psx) nm (logNorm D) [] (sfNorm D sf) ∧ (∀ s, (∀ u, s ≠ fileB nm u) → lk psx s = lk ps s) ∧ (arm = 0 → armx = 0) ∧ usedL psx ≤ usedL ps)
theorem keep_norm {a : List Prt} {q : Prt} (h : ¬ (q.2 = [] ∧ (0 < a.length ∨ q.1 = 0))) (sf : Nat) : logNorm (a ++ [q]) = a ++ [q] ∧ sfNorm (a ++ [q]) sf = min sf (szP q) := by
  have h2 : ¬ (q.2 = [] ∧ (a ≠ [] ∨ q.1 = 0)) := fun ⟨e, e2⟩ => h ⟨e, e2.imp (fun e => List.length_pos_iff.2 e) id⟩
  refine ⟨by rw [logNorm_snoc, if_neg h2], ?_⟩
  unfold sfNorm
  rw [List.getLast?_concat]
  simp only
  rw [if_neg fun ⟨e, e2⟩ => h ⟨e, e2.imp (fun e => by simpa using e) id⟩]
theorem drop_norm {a : List Prt} {q : Prt} (h : q.2 = [] ∧ (0 < a.length ∨ q.1 = 0)) (sf : Nat) : logNorm (a ++ [q]) = a ∧ sfNorm (a ++ [q]) sf = (a.getLast?.map szP).getD 0 := by
  refine ⟨by rw [logNorm_snoc, if_pos ⟨h.1, h.2.imp (fun e => List.length_pos_iff.1 e) id⟩], ?_⟩
  unfold sfNorm
  rw [List.getLast?_concat]
  simp only [List.dropLast_concat]
  rw [if_pos ⟨h.1, h.2.imp (fun e => by simpa using e) id⟩]
/-- What is held while the segments are read. -/
def OpI (w W : World) (T F M : Nat) (nm : ByteArray) (ps : List PF) (clock : Nat) (lim arm : Int) (D : List Prt) (sf : Nat) (Af : Option Addr) (ln cf : Nat) (j : Nat) : Prop :=
  ∃ v ms ps' c' arm', LG W T F M nm ps' c' lim arm' false v ms false ∧ (∀ k, LFoot T F M ps' v ms k → k ∈ foot F M ps ∨ w.heap.size ≤ k) ∧ Kept (fun k => k ∈ foot F M ps) w W ∧ W.ownsRow w.heap.size 27 1 (.slice Af ln cf) ln ((D.map Prod.fst).map uV) ∧
    ((j < ln ∧ prts ms = D.take j ∧ ps' = ps ∧ c' = clock ∧ arm' = arm) ∨
     (j = ln ∧ prts ms = logNorm D ∧ LogD (lk ps') nm (logNorm D) [] (sfNorm D sf) ∧ (∀ s, (∀ u, s ≠ fileB nm u) → lk ps' s = lk ps s) ∧ (arm = 0 → arm' = 0) ∧ usedL ps' ≤ usedL ps))
set_option maxRecDepth 100000 in
set_option maxHeartbeats 40000000 in
theorem slOpen_any (w : World) (F M : Nat) (nm : ByteArray) (ps : List PF) (clock : Nat) (lim arm : Int) (D : List Prt) (t : List UInt8) (sf : Nat) (h : FilesAt w F M ps clock lim arm false) (hp : OpenLPre ps nm D t sf) :
    Calls Tryz.prog 5 #[.pointer (some ⟨F, 0, none⟩), .string nm] w (OpenLPost w F M nm ps lim arm D sf) := by
  have H := Lib.hid h
  have HP := Lib.hid hp
  have HFi : Hid (∀ W u, u ≤ 1000000000 → Calls Tryz.prog 10 #[.string nm, .int .u64 (u : Nat)] W fun e w' => e = .returned (.string (fileB nm u)) ∧ Kept (fun _ => False) W w') := Lib.hid fun W u hu => slFile_any W nm u (by have := hp.nms; omega) (by omega)
  have HFi0 : Hid (Calls Tryz.prog 10 #[.string nm, .int .u64 0] w fun e w' => e = .returned (.string (fileB nm 0)) ∧ Kept (fun _ => False) w w') := Lib.hid (slFile_any w nm 0 (by have := hp.nms; omega) (by omega))
  have HFu : Hid (∀ W, Calls Tryz.prog 9 #[.string (fileB nm 0)] W fun e w' => e = .returned (.bool true) ∧ Kept (fun _ => False) W w') := Lib.hid fun W => by
    have := full_any (fileB nm 0) W (by rw [size_fileB]; have := hp.nms; omega)
    rwa [full_file nm 0 hp.full hp.nms] at this
  have HDn : Hid (∀ W, Kept (fun _ => False) w W → Calls Tryz.prog 11 #[.pointer (some ⟨F, 0, none⟩)] W fun e w' => e = .returned (.bool false) ∧ w' = W) := Lib.hid fun W hW => by
    refine (down_any W F M lim arm false (h.kept hW (by simp)).fb).mono ?_
    rintro e w' ⟨rfl, rfl⟩
    exact ⟨rfl, rfl⟩
  have HFr : Hid (∀ W, Kept (fun _ => False) w W → Calls Tryz.prog 12 #[.pointer (some ⟨F, 0, none⟩), .string nm] W (FirstsPost W (D.map Prod.fst))) := Lib.hid fun W hW => by
    have := slFirsts_any W F M ps clock lim arm false nm (h.kept hW (by simp)) hp.psn hp.pss (by have := hp.nms; omega)
    rwa [hp.ld.picks hp.cont (fun p hp' => by have h1 := Cont.lt_end hp.cont p hp'; have h2 := hp.next; unfold endP at h1; omega) h.names] at this
  clear h hp
  go_enter Tryz.func5, Tryz.ntmps5
  go_upto_region 7 with (first | (go_at_call 10; refine HFi0.out.mono ?_; rintro e w1 ⟨rfl, hk⟩; have HK1 := Lib.hid hk; clear hk) | (go_at_call 9; refine (HFu.out _).mono ?_; rintro e w2 ⟨rfl, hk⟩; have HK2 := Lib.hid (HK1.out.trans' hk); clear hk) | (go_at_call 11; refine (HDn.out _ HK2.out).mono ?_; rintro e w3 ⟨rfl, rfl⟩))
  go_upto_region 8 with fail
  obtain ⟨T, hT⟩ : ∃ T, T = w3.heap.size := ⟨_, rfl⟩
  obtain ⟨W4, hW4⟩ : ∃ W4, W4 = w3.alloc (.cells #[.pointer (some ⟨F, 0, none⟩), .string nm, .slice none 0 0, .bool false] 50) := ⟨_, rfl⟩
  have HK4 : Hid (Kept (fun _ => False) w W4) := Lib.hid (by rw [hW4]; exact HK2.out.alloc _)
  have HT : Hid (w.heap.size ≤ T) := Lib.hid (by rw [hT]; exact HK2.out.size)
  have HL4 : Hid (LG W4 T F M nm ps clock lim arm false (.slice none 0 0) [] false) := Lib.hid (by
    refine ⟨H.out.kept HK4.out (by simp), by rw [hW4, hT]; exact heap_alloc_new w3 _, World.ownsRow_nil _ _ _ _, (fun p hp => by cases hp), (fun p hp => by cases hp), fun hm => ?_, (fun k e => by simp [Value.ownBlock] at e), (fun p hp => by cases hp), (fun p hp => by cases hp), .nil⟩
    have h1 := H.out.lt T hm
    have h2 := HK2.out.size
    omega)
  rw [← hT, ← hW4]
  clear hT hW4
  go_upto_region 9 with (go_at_call 12; refine (HFr.out _ HK4.out).mono ?_; rintro e w5 ⟨vf, rfl, ho5, hk5⟩; obtain ⟨Af, cf, rfl⟩ := own_slice ho5; have HO5 := Lib.hid ho5; have HK45 := Lib.hid hk5; have HK5 := Lib.hid (HK4.out.trans' hk5); clear ho5 hk5)
  have HL5 := Lib.hid (HL4.out.stay HK45.out)
  rw [List.length_map] at HO5
  obtain ⟨ln, hln⟩ : ∃ ln, ln = D.length := ⟨_, rfl⟩
  rw [← hln] at HO5 ⊢
  have hln9 : ln ≤ 100000 := by rw [hln]; exact HP.out.few
  have HLn := Lib.hid hln
  clear hln HK1 HFi0 HFu HDn HFr
  go_wp2_with fail
  have HI5 : Hid (OpI w w5 T F M nm ps clock lim arm D sf Af ln cf 0) := Lib.hid (by
    have hft : ∀ k, LFoot T F M ps (.slice none 0 0) [] k → k ∈ foot F M ps ∨ w.heap.size ≤ k := fun k e => by
      rcases e with e | e | e | ⟨p, hp, e⟩
      · exact .inr (by rw [e]; exact HT.out)
      · exact .inl e
      · simp [Value.ownBlock] at e
      · cases hp
    refine ⟨_, [], ps, clock, arm, HL5.out, hft, HK5.out.mono fun _ _ e => e.elim, own_low HO5.out HK4.out.size, ?_⟩
    rcases Nat.eq_zero_or_pos ln with h0 | h0
    · right
      have hD : D = [] := List.eq_nil_of_length_eq_zero (by rw [← HLn.out]; exact h0)
      refine ⟨h0.symm, by rw [hD]; rfl, fun u hu => ?_, fun s _ => rfl, fun e => e, Nat.le_refl _⟩
      rw [HP.out.ld u hu, hD]; rfl
    · exact .inl ⟨h0, by simp [prts], rfl, rfl, rfl⟩)
  clear HL4 HL5 HO5
  go_loopw [40] (fun i wr => ∃ j : Nat, i = .int .i64 j ∧ j ≤ ln ∧ Hid (OpI w wr T F M nm ps clock lim arm D sf Af ln cf j)) (fun i _ => ln - (intOf i).toNat)
  case atStart => exact ⟨0, rfl, by omega, HI5⟩
  case round =>
    obtain ⟨j, rfl, hj, hI⟩ := hrel
    obtain ⟨w0r, hw0r⟩ : ∃ w0r, w0r = wr := ⟨_, rfl⟩
    subst hw0r
    by_cases hlt : j < ln
    · have hj9 : (j : Int) < (ln : Int) := by omega
      obtain ⟨v, ms, ps', c', arm', hL, hft, hK, hrow, hc⟩ := hI.out
      rcases hc with ⟨-, hms, rfl, rfl, rfl⟩ | ⟨h9, -⟩
      rotate_left
      · omega
      obtain ⟨q, hq⟩ : ∃ q, D[j]? = some q := ⟨_, List.getElem?_eq_getElem (by have := HLn.out; omega)⟩
      obtain ⟨Gf, cf', hvf, -, hcf, hcell⟩ := own_cell hrow (by omega)
      simp only [Value.slice.injEq, true_and] at hvf
      obtain ⟨rfl, rfl⟩ := hvf
      have d0 := hcell j (.int .u64 (q.1 : Nat)) (by simp [hq, uV])
      obtain ⟨f, hf⟩ : ∃ f, f = q.1 := ⟨_, rfl⟩
      rw [← hf] at d0
      have hqm : q ∈ D := List.mem_of_getElem? hq
      have hf9 : f ≤ 1000000000 := by have h1 := Cont.lt_end HP.out.cont q hqm; have h2 := HP.out.next; unfold endP at h1; omega
      have HL := Lib.hid hL
      have HFt := Lib.hid hft
      have HK := Lib.hid hK
      have HRow := Lib.hid hrow
      have Hms := Lib.hid hms
      have Hq := Lib.hid hq
      have Hf := Lib.hid hf
      clear hI hL hft hK hrow hms hcell hq hf hqm hcf
      -- what the file has
      obtain ⟨x, sx, t2, hx1, hx2, hx3, hx4⟩ : ∃ x sx t2, lk ps' (fileB nm f) = some (x, sx) ∧ x = frsP q ++ t2 ∧ PartF (f + q.2.length) t2 ∧ ((j + 1 < ln ∧ t2 = []) ∨ (j + 1 = ln ∧ t2 = t ∧ sx = sf)) := by
        have e1 : D = D.take j ++ q :: D.drop (j + 1) := by
          have hjl := (List.getElem?_eq_some_iff.1 Hq.out).1
          rw [← (List.getElem?_eq_some_iff.1 Hq.out).2, ← List.drop_eq_getElem_cons hjl, List.take_append_drop]
        have hld := HP.out.ld f (by omega)
        have hcc := HP.out.cont
        by_cases hlast : j + 1 < ln
        · have hne : D.drop (j + 1) ≠ [] := fun e => by
            have h1 : (D.drop (j + 1)).length = 0 := by rw [e]; rfl
            rw [List.length_drop] at h1
            have := HLn.out
            omega
          rw [e1] at hcc hld
          rw [Hf.out, lookP_before hne hcc] at hld
          rw [← Hf.out] at hld
          exact ⟨frsP q, szP q, [], hld, by simp, PartF.nil _, .inl ⟨hlast, rfl⟩⟩
        · have he : D.drop (j + 1) = [] := List.drop_of_length_le (by have := HLn.out; omega)
          rw [he] at e1
          rw [e1] at hcc hld
          rw [Hf.out, lookP_last hcc] at hld
          rw [← Hf.out] at hld
          have := (HP.out.tail _ _ e1).1
          unfold endP at this
          rw [← Hf.out] at this
          exact ⟨_, sf, t, hld, rfl, this, .inr ⟨by omega, rfl, rfl⟩⟩
      have hszq := HP.out.sz q (List.mem_of_getElem? Hq.out)
      have hshq := HP.out.short q (List.mem_of_getElem? Hq.out)
      obtain ⟨n, hn⟩ : ∃ n, n = x.length := ⟨_, rfl⟩
      obtain ⟨sz, hsz⟩ : ∃ sz, sz = szP q := ⟨_, rfl⟩
      have ht2l : t2.length ≤ 32784 := by
        obtain ⟨y, m, h1, h2, h3⟩ := hx3
        rw [h3, List.length_take, frameB_len]; omega
      have hnl : n = sz + t2.length := by rw [hn, hx2, List.length_append, hsz]; rfl
      have hsz9 : sz ≤ 1000000 := by rw [hsz]; exact hszq
      have hn9 : n ≤ 1100000 := by omega
      have HRd : Hid (∀ W, Kept (fun _ => False) w0r W → Calls Tryz.prog 13 #[.pointer (some ⟨F, 0, none⟩), .string (fileB nm f)] W (ReadPost W F M x 0)) := Lib.hid fun W hW => read_D (fileB nm f) (x, sx) (HL.out.stay hW).f hx1
      have HSc : Hid (∀ W A c, Bs W A x → n ≤ c → (A = none → c = 0) → Calls Tryz.prog 14 #[.slice A n c, .int .u64 (f : Nat)] W (ScanPost W f q.2)) := Lib.hid fun W A c hb hc hA => scan_any W A n c f x t2 q.2 hn hc hA hb (by omega) (by rw [hx2, Hf.out]; rfl) hx3 hshq (by
        have h1 := Cont.lt_end HP.out.cont q (List.mem_of_getElem? Hq.out)
        have h2 := HP.out.next
        unfold endP at h1
        have := Hf.out
        omega)
      have HX1 := Lib.hid hx1
      have HX2 := Lib.hid hx2
      have HX3 := Lib.hid hx3
      have HX4 := Lib.hid hx4
      have HN := Lib.hid hn
      have HSz := Lib.hid hsz
      have HNl := Lib.hid hnl
      clear hx1 hx2 hx3 hx4 hszq hshq hn hsz hnl ht2l
      go_upto_region 16 with (first | (go_at_call 10; refine (HFi.out _ f hf9).mono ?_; rintro e w6 ⟨rfl, hk⟩; have HK6 := Lib.hid hk; clear hk) | (go_at_call 13; refine (HRd.out _ HK6.out).mono ?_; rintro e w7 ⟨vb, rfl, ho7, hk7⟩; obtain ⟨Ab, cb, rfl, -, hbb, hAb, -⟩ := Bs.of_own ho7; have hcb := own_capn ho7; rw [← HN.out] at hcb ⊢; have HBb := Lib.hid hbb; have HAb := Lib.hid hAb; have HCb := Lib.hid hcb; have HK7 := Lib.hid (HK6.out.trans' hk7); clear ho7 hbb hAb hcb hk7) | (go_at_call 14; refine (HSc.out _ Ab cb HBb.out HCb.out HAb.out).mono ?_; rintro e w8 ⟨vr, rs, rfl, hrs, hrc⟩; obtain ⟨Ar, cr, rfl⟩ := own_slice hrc.row; have HRs := Lib.hid hrs; have HRc := Lib.hid hrc; have HK8 := Lib.hid (HK7.out.trans' hrc.kept); clear hrs hrc))
      have hse : (frsL f q.2).length = sz := by rw [HSz.out, Hf.out]; rfl
      obtain ⟨lr, hlr⟩ : ∃ lr, lr = rs.length := ⟨_, rfl⟩
      have hlrq : lr = q.2.length := by rw [hlr, ← List.length_map (f := BV.b), HRs.out]
      have hlr9 : lr ≤ 100000 := by
        have h1 := sumR_le q.1 q.2
        have h2 : (frsL q.1 q.2).length = sz := by rw [← Hf.out]; exact hse
        omega
      rw [hse, ← hlr]
      have Hlr := Lib.hid hlr
      have Hlrq := Lib.hid hlrq
      have HL8 := Lib.hid (HL.out.stay HK8.out)
      have HRow8 := Lib.hid (own_kept HRow.out HK8.out (by simp))
      have HKw8 := Lib.hid (HK.out.trans' (HK8.out.mono fun _ _ e => e.elim))
      have HRr : Hid (OwnRc w0r w8 f (.slice Ar lr cr) rs) := Lib.hid (by
        have h1 := HRc.out
        rw [← hlr] at h1
        have h2 := own_low h1.row (HK7.out.size)
        exact ⟨h2, fun r hr => own_low (h1.own r hr) HK7.out.size, HK8.out⟩)
      clear hse hlr hlrq d0
      have hln0 : (0 : Int) < (ln : Int) := by omega
      have hcs : (j + 1 < ln) ∨ (j + 1 = ln ∧ q.2 = [] ∧ (0 < j ∨ f = 0)) ∨ (j + 1 = ln ∧ ¬ (q.2 = [] ∧ (0 < j ∨ f = 0)) ∧ t2 = []) ∨ (j + 1 = ln ∧ ¬ (q.2 = [] ∧ (0 < j ∨ f = 0)) ∧ t2 ≠ []) := by
        rcases Nat.lt_or_ge (j + 1) ln with h | h
        · exact .inl h
        · have h2 : j + 1 = ln := by omega
          by_cases h3 : q.2 = [] ∧ (0 < j ∨ f = 0)
          · exact .inr (.inl ⟨h2, h3⟩)
          · by_cases h4 : t2 = []
            · exact .inr (.inr (.inl ⟨h2, h3, h4⟩))
            · exact .inr (.inr (.inr ⟨h2, h3, h4⟩))
      rcases hcs with hA | hB1 | hB2 | hB3
      case' inl =>
        have hlI : ¬ (j : Int) = (ln : Int) - 1 := by omega
        have HA := Lib.hid hA
        go_upto_region 25 with fail
        obtain ⟨w25, hw25⟩ : ∃ w25, w25 = w8 := ⟨_, rfl⟩
        obtain ⟨psx, hpsx⟩ : ∃ psx, psx = ps' := ⟨_, rfl⟩
        obtain ⟨cx, hcx⟩ : ∃ cx, cx = c' := ⟨_, rfl⟩
        obtain ⟨armx, harmx⟩ : ∃ armx, armx = arm' := ⟨_, rfl⟩
        rw [← hw25]
        have HLx : Hid (LG w25 T F M nm psx cx lim armx false v ms false) := Lib.hid (by rw [hw25, hpsx, hcx, harmx]; exact HL8.out)
        have HFtx : Hid (∀ k, LFoot T F M psx v ms k → k ∈ foot F M ps' ∨ w.heap.size ≤ k) := Lib.hid (by rw [hpsx]; exact HFt.out)
        have HKwx : Hid (Kept (fun k => k ∈ foot F M ps') w w25) := Lib.hid (by rw [hw25]; exact HKw8.out)
        have HRowx : Hid (w25.ownsRow w.heap.size 27 1 (.slice (some ⟨Gf, 0, none⟩) ln cf) ln ((D.map Prod.fst).map uV)) := Lib.hid (by rw [hw25]; exact HRow8.out)
        have HRrx : Hid (w25.ownsRow w0r.heap.size 63 2 (.slice Ar lr cr) lr (cellsRc f rs) ∧ ∀ r ∈ rs, w25.ownsRow w0r.heap.size 5 1 r.val r.b.length (r.b.map bv)) := Lib.hid (by rw [hw25]; exact ⟨by have := HRr.out.row; rwa [← Hlr.out] at this, HRr.out.own⟩)
        have HFr2 : Hid (∀ r ∈ rs, ∀ k, r.val.ownBlock = some k → k ∉ foot F M psx) := Lib.hid fun r hr k e hm => by
          have h1 := own_ge (HRr.out.own r hr) k e
          have h2 := HL.out.f.lt k (by rw [← hpsx]; exact hm)
          omega
        have HEnd : Hid (EndP nm ps' psx c' cx arm' armx D sf ln j q) := Lib.hid (.inl ⟨HA.out, by rw [List.take_add_one, Hq.out]; rfl, hpsx, hcx, harmx⟩)
        clear hw25 hpsx hcx harmx hA
      case' inr.inl =>
        obtain ⟨hB1, hB2, hB3⟩ := hB1
        have hlI : ((j : Int) == (ln : Int) - 1) = true := by rw [beq_iff_eq]; omega
        have HB1 := Lib.hid hB1
        have HB23 := Lib.hid (And.intro hB2 hB3)
        have hl0 : ((lr : Int) == 0) = true := by have := Hlrq.out; rw [hB2] at this; simp at this; rw [beq_iff_eq]; omega
        have e1 : D = D.take j ++ [q] := by
          have hjl := (List.getElem?_eq_some_iff.1 Hq.out).1
          have e2 : D.drop (j + 1) = [] := List.drop_of_length_le (by have := HLn.out; omega)
          have e3 : D = D.take j ++ q :: D.drop (j + 1) := by
            rw [← (List.getElem?_eq_some_iff.1 Hq.out).2, ← List.drop_eq_getElem_cons hjl, List.take_append_drop]
          rwa [e2] at e3
        have hjl : (D.take j).length = j := by rw [List.length_take]; have := (List.getElem?_eq_some_iff.1 Hq.out).1; omega
        have hdn := drop_norm (a := D.take j) (q := q) ⟨hB2, by rw [hjl, ← Hf.out]; exact hB3⟩ sf
        rw [← e1] at hdn
        have hld := HP.out.ld
        have hcc := HP.out.cont
        rw [e1] at hld hcc
        have hdl := hld.dropLast hcc (by rw [← Hf.out]; omega)
        rw [← hdn.2, ← Hf.out] at hdl
        have HDl := Lib.hid hdl
        have HDn := Lib.hid hdn.1
        have hgd : 0 < j ∨ ¬ (0 : Int) < (j : Int) ∧ ((f : Int) == 0) = true := hB3.elim .inl fun e => by
          rcases Nat.eq_zero_or_pos j with h | h
          · exact .inr ⟨by omega, by rw [e]; rfl⟩
          · exact .inl h
        clear hB1 hB2 hB3 e1 hjl hdn hld hcc hdl
        have HRm : Hid (∀ W, Kept (fun _ => False) w8 W → Calls Tryz.prog 15 #[.pointer (some ⟨F, 0, none⟩), .string (fileB nm f)] W fun e w' => ∃ er, e = .returned (.int .i64 er) ∧ OpR W F M ps' lim arm' ((lk ps').put (fileB nm f) none) er w') := Lib.hid fun W hW => (remove_D (fileB nm f) (x, sx) (HL8.out.stay hW).f HX1.out).mono fun _ _ h => opR_of h
        rcases hgd with hgd | ⟨hgd, hgf⟩
        all_goals
          try have hgI : (0 : Int) < (j : Int) := by omega
          go_upto_region 19 with (first | (go_at_call 10; refine (HFi.out _ f hf9).mono ?_; rintro e w9 ⟨rfl, hk⟩; have HK89 := Lib.hid hk; clear hk) | (go_at_call 15; refine (HRm.out _ HK89.out).mono ?_; rintro e w10 ⟨er, rfl, h10⟩; have H10 := Lib.hid h10; clear h10))
          have hsw := HKw8.out.size
          rcases H10.out with ⟨ps9, c9, ⟨rfl, ha, hw, hd⟩ | ⟨rfl, ha, hw, hd⟩⟩
          · have HX : Hid (OpenLPost w F M nm ps' lim arm' D sf (.returned (.tuple #[.pointer none, .int .i64 13])) w10) := Lib.hid (.inr ⟨ps9, c9, rfl, ha, ⟨hw.at_, (HKw8.out.trans' (HK89.out.mono fun _ _ e => e.elim)).trans' hw.kept, fun k e => (hw.feet k e).imp id fun e2 => Nat.le_trans (Nat.le_trans hsw HK89.out.size) e2⟩, hd⟩)
            clear ha hw hd
            go_wp2
            go_ret2
            exact HX.out
          · have HX : Hid (OpenLPost w F M nm ps' lim arm' D sf (.returned (.tuple #[.pointer (some ⟨T, 0, none⟩), .int .i64 0])) w10) := Lib.hid (by
              have hm : MvL w9 T F M ps' v ms ps9 v ms w10 := MvL.went hw
              have hu := used_put HL8.out.f.names hw.at_.names hd
              refine .inl ⟨T, v, ms, ps9, c9, _, rfl, HT.out, (HL8.out.stay HK89.out).went hw, by rw [HDn.out]; exact Hms.out, fun k e => ?_, (HKw8.out.trans' (HK89.out.mono fun _ _ e => e.elim)).trans' hw.kept, ?_, fun s hs => by rw [hd, Disk.put_ne _ _ (hs f)], decA0, ?_⟩
              · rcases hm.feet k e with e2 | e2
                · exact HFt.out k e2
                · exact .inr (Nat.le_trans (Nat.le_trans hsw HK89.out.size) e2)
              · rw [hd, HDn.out]; exact HDl.out
              · have e0 : szV (none : Option FV) = 0 := rfl
                rw [e0] at hu
                omega)
            clear ha hw hd
            go_wp2
            go_ret2
            exact HX.out
      case' inr.inr.inl =>
        obtain ⟨hB1, hB2, hB3⟩ := hB2
        have hlI : ((j : Int) == (ln : Int) - 1) = true := by rw [beq_iff_eq]; omega
        have hnn : ¬ (sz : Int) < (n : Int) := by have := HNl.out; rw [hB3] at this; simp at this; omega
        have HB1 := Lib.hid hB1
        have HB2 := Lib.hid hB2
        have HB3 := Lib.hid hB3
        have hl0 : ¬ (lr : Int) = 0 ∨ (lr : Int) = 0 ∧ ¬ (0 : Int) < (j : Int) ∧ ¬ (f : Int) = 0 := by
          by_cases e : lr = 0
          · have e2 : q.2 = [] := List.eq_nil_of_length_eq_zero (by rw [← Hlrq.out]; exact e)
            have e3 : ¬ (0 < j ∨ f = 0) := fun h => hB2 ⟨e2, h⟩
            right; omega
          · left; omega
        clear hB1 hB2 hB3
        rcases hl0 with hl0 | ⟨hl0, hl1, hl2⟩
        all_goals go_upto_region 25 with fail
        all_goals
          obtain ⟨w25, hw25⟩ : ∃ w25, w25 = w8 := ⟨_, rfl⟩
          obtain ⟨psx, hpsx⟩ : ∃ psx, psx = ps' := ⟨_, rfl⟩
          obtain ⟨cx, hcx⟩ : ∃ cx, cx = c' := ⟨_, rfl⟩
          obtain ⟨armx, harmx⟩ : ∃ armx, armx = arm' := ⟨_, rfl⟩
          rw [← hw25]
          have HLx : Hid (LG w25 T F M nm psx cx lim armx false v ms false) := Lib.hid (by rw [hw25, hpsx, hcx, harmx]; exact HL8.out)
          have HFtx : Hid (∀ k, LFoot T F M psx v ms k → k ∈ foot F M ps' ∨ w.heap.size ≤ k) := Lib.hid (by rw [hpsx]; exact HFt.out)
          have HKwx : Hid (Kept (fun k => k ∈ foot F M ps') w w25) := Lib.hid (by rw [hw25]; exact HKw8.out)
          have HRowx : Hid (w25.ownsRow w.heap.size 27 1 (.slice (some ⟨Gf, 0, none⟩) ln cf) ln ((D.map Prod.fst).map uV)) := Lib.hid (by rw [hw25]; exact HRow8.out)
          have HRrx : Hid (w25.ownsRow w0r.heap.size 63 2 (.slice Ar lr cr) lr (cellsRc f rs) ∧ ∀ r ∈ rs, w25.ownsRow w0r.heap.size 5 1 r.val r.b.length (r.b.map bv)) := Lib.hid (by rw [hw25]; exact ⟨by have := HRr.out.row; rwa [← Hlr.out] at this, HRr.out.own⟩)
          have HFr2 : Hid (∀ r ∈ rs, ∀ k, r.val.ownBlock = some k → k ∉ foot F M psx) := Lib.hid fun r hr k e hm => by
            have h1 := own_ge (HRr.out.own r hr) k e
            have h2 := HL.out.f.lt k (by rw [← hpsx]; exact hm)
            omega
          have HEnd : Hid (EndP nm ps' psx c' cx arm' armx D sf ln j q) := Lib.hid (by
            have e1 : D = D.take j ++ [q] := by
              have hjl := (List.getElem?_eq_some_iff.1 Hq.out).1
              have e2 : D.drop (j + 1) = [] := List.drop_of_length_le (by have := HLn.out; have := HB1.out; omega)
              have e3 : D = D.take j ++ q :: D.drop (j + 1) := by
                rw [← (List.getElem?_eq_some_iff.1 Hq.out).2, ← List.drop_eq_getElem_cons hjl, List.take_append_drop]
              rwa [e2] at e3
            have hjl : (D.take j).length = j := by rw [List.length_take]; have := (List.getElem?_eq_some_iff.1 Hq.out).1; omega
            have hkn := keep_norm (a := D.take j) (q := q) (by rw [hjl, ← Hf.out]; exact HB2.out) sf
            rw [← e1] at hkn
            have ht0 : t = [] := by
              rcases HX4.out with ⟨a1, -⟩ | ⟨-, a2, -⟩
              · have := HB1.out; omega
              · rw [← a2]; exact HB3.out
            have hsf := (HP.out.tail _ _ e1).2
            rw [ht0] at hsf
            have hld := HP.out.ld
            rw [ht0] at hld
            refine .inr ⟨HB1.out, by rw [hkn.1, ← e1], ?_, fun s _ => by rw [hpsx], fun e => by rw [harmx]; exact e, by rw [hpsx]; exact Nat.le_refl _⟩
            rw [hkn.1, hkn.2, hpsx, Nat.min_eq_left (by simpa using hsf)]
            exact hld)
        all_goals clear hw25 hpsx hcx harmx hl0
      case' inr.inr.inr =>
        obtain ⟨hB1, hB2, hB4⟩ := hB3
        have hlI : ((j : Int) == (ln : Int) - 1) = true := by rw [beq_iff_eq]; omega
        have htl0 : 0 < t2.length := List.length_pos_iff.2 hB4
        have hnn : (sz : Int) < (n : Int) := by have := HNl.out; omega
        have hl0 : ¬ (lr : Int) = 0 ∨ (lr : Int) = 0 ∧ ¬ (0 : Int) < (j : Int) ∧ ¬ (f : Int) = 0 := by
          by_cases e : lr = 0
          · have e2 : q.2 = [] := List.eq_nil_of_length_eq_zero (by rw [← Hlrq.out]; exact e)
            have e3 : ¬ (0 < j ∨ f = 0) := fun h => hB2 ⟨e2, h⟩
            right; omega
          · left; omega
        have HTr : Hid (∀ W, Kept (fun _ => False) w8 W → Calls Tryz.prog 16 #[.pointer (some ⟨F, 0, none⟩), .string (fileB nm f), .int .i64 (sz : Nat)] W fun e w' => ∃ er, e = .returned (.int .i64 er) ∧ OpR W F M ps' lim arm' ((lk ps').put (fileB nm f) (some (x.take sz, min sx sz))) er w') := Lib.hid fun W hW => (trunc_D (fileB nm f) (x, sx) sz (HL8.out.stay hW).f HX1.out (by show sz ≤ x.length; have := HN.out; omega)).mono fun _ _ h => opR_of h
        have HTail : Hid (logNorm D = D ∧ D = D.take j ++ [q] ∧ LogD ((lk ps').put (fileB nm f) (some (x.take sz, min sx sz))) nm (logNorm D) [] (sfNorm D sf)) := Lib.hid (by
          have e1 : D = D.take j ++ [q] := by
            have hjl := (List.getElem?_eq_some_iff.1 Hq.out).1
            have e2 : D.drop (j + 1) = [] := List.drop_of_length_le (by have := HLn.out; omega)
            have e3 : D = D.take j ++ q :: D.drop (j + 1) := by
              rw [← (List.getElem?_eq_some_iff.1 Hq.out).2, ← List.drop_eq_getElem_cons hjl, List.take_append_drop]
            rwa [e2] at e3
          have hjl : (D.take j).length = j := by rw [List.length_take]; have := (List.getElem?_eq_some_iff.1 Hq.out).1; omega
          have hkn := keep_norm (a := D.take j) (q := q) (by rw [hjl, ← Hf.out]; exact hB2) sf
          rw [← e1] at hkn
          have hsx : sx = sf := by
            rcases HX4.out with ⟨a1, -⟩ | ⟨-, -, a3⟩
            · omega
            · exact a3
          have hxt : x.take sz = frsP q := by
            rw [HX2.out]
            exact List.take_left' (by rw [HSz.out]; rfl)
          have hld := HP.out.ld
          have hcc := HP.out.cont
          rw [e1] at hld hcc
          have h1 := hld.last (t' := []) (sf' := min sf (szP q)) hcc rfl (by rw [← Hf.out]; omega)
          rw [List.append_nil, ← Hf.out] at h1
          refine ⟨hkn.1, e1, ?_⟩
          rw [hkn.1, hkn.2, hxt, hsx, HSz.out]
          rw [e1]; exact h1)
        have HB1 := Lib.hid hB1
        have HxL : Hid (szV (some (x.take sz, min sx sz)) ≤ szV (some (x, sx))) := Lib.hid (by show (x.take sz).length ≤ x.length; rw [List.length_take]; omega)
        clear hB1 hB2 hB4 htl0
        rcases hl0 with hl0 | ⟨hl0, hl1, hl2⟩
        all_goals
          go_upto_region 23 with (first | (go_at_call 10; refine (HFi.out _ f hf9).mono ?_; rintro e w9 ⟨rfl, hk⟩; have HK89 := Lib.hid hk; clear hk) | (go_at_call 16; refine (HTr.out _ HK89.out).mono ?_; rintro e w10 ⟨er, rfl, h10⟩; have H10 := Lib.hid h10; clear h10))
          have hsw := HKw8.out.size
          rcases H10.out with ⟨ps9, c9, ⟨rfl, ha, hw, hd⟩ | ⟨rfl, ha, hw, hd⟩⟩
          · have HX : Hid (OpenLPost w F M nm ps' lim arm' D sf (.returned (.tuple #[.pointer none, .int .i64 13])) w10) := Lib.hid (.inr ⟨ps9, c9, rfl, ha, ⟨hw.at_, (HKw8.out.trans' (HK89.out.mono fun _ _ e => e.elim)).trans' hw.kept, fun k e => (hw.feet k e).imp id fun e2 => Nat.le_trans (Nat.le_trans hsw HK89.out.size) e2⟩, hd⟩)
            clear ha hw hd
            go_wp2
            go_ret2
            exact HX.out
          go_upto_region 25 with fail
          obtain ⟨w25, hw25⟩ : ∃ w25, w25 = w10 := ⟨_, rfl⟩
          obtain ⟨psx, hpsx⟩ : ∃ psx, psx = ps9 := ⟨_, rfl⟩
          obtain ⟨cx, hcx⟩ : ∃ cx, cx = c9 := ⟨_, rfl⟩
          obtain ⟨armx, harmx⟩ : ∃ armx, armx = decA arm' := ⟨_, rfl⟩
          rw [← hw25]
          have hk90 : Kept (fun k => k ∈ foot F M ps') w8 w10 := (HK89.out.mono fun _ _ e => e.elim).trans' hw.kept
          have HLx : Hid (LG w25 T F M nm psx cx lim armx false v ms false) := Lib.hid (by rw [hw25, hpsx, hcx, harmx]; exact (HL8.out.stay HK89.out).went hw)
          have HFtx : Hid (∀ k, LFoot T F M psx v ms k → k ∈ foot F M ps' ∨ w.heap.size ≤ k) := Lib.hid (by
            rw [hpsx]
            intro k e
            rcases (MvL.went (v := v) (ms := ms) (T := T) hw).feet k e with e2 | e2
            · exact HFt.out k e2
            · exact .inr (Nat.le_trans (Nat.le_trans hsw HK89.out.size) e2))
          have HKwx : Hid (Kept (fun k => k ∈ foot F M ps') w w25) := Lib.hid (by rw [hw25]; exact HKw8.out.trans' hk90)
          have HRowx : Hid (w25.ownsRow w.heap.size 27 1 (.slice (some ⟨Gf, 0, none⟩) ln cf) ln ((D.map Prod.fst).map uV)) := Lib.hid (by rw [hw25]; exact own_kept HRow8.out hk90 fun k e hm => by have a1 := own_ge HRow8.out k e; have a2 := H.out.lt k hm; omega)
          have HRrx : Hid (w25.ownsRow w0r.heap.size 63 2 (.slice Ar lr cr) lr (cellsRc f rs) ∧ ∀ r ∈ rs, w25.ownsRow w0r.heap.size 5 1 r.val r.b.length (r.b.map bv)) := Lib.hid (by
            rw [hw25]
            have h1 := HRr.out.row
            rw [← Hlr.out] at h1
            exact ⟨own_kept h1 hk90 fun k e hm => by have a1 := own_ge h1 k e; have a2 := HL.out.f.lt k hm; omega, fun r hr => own_kept (HRr.out.own r hr) hk90 fun k e hm => by have a1 := own_ge (HRr.out.own r hr) k e; have a2 := HL.out.f.lt k hm; omega⟩)
          have HFr2 : Hid (∀ r ∈ rs, ∀ k, r.val.ownBlock = some k → k ∉ foot F M psx) := Lib.hid fun r hr k e hm => by
            rw [hpsx] at hm
            have h1 := own_ge (HRr.out.own r hr) k e
            rcases hw.feet k hm with e2 | e2
            · have h2 := HL.out.f.lt k e2
              omega
            · have h2 := own_ltH (HRr.out.own r hr) k e
              have h3 := HK89.out.size
              omega
          have HEnd : Hid (EndP nm ps' psx c' cx arm' armx D sf ln j q) := Lib.hid (by
            have hu := used_put HL8.out.f.names hw.at_.names hd
            rw [HX1.out] at hu
            have := HxL.out
            refine .inr ⟨HB1.out, by rw [HTail.out.1]; exact HTail.out.2.1.symm, ?_, fun s hs => by rw [hpsx, hd, Disk.put_ne _ _ (hs f)], fun e => by rw [harmx]; exact decA0 e, by rw [hpsx]; omega⟩
            rw [hpsx, hd]
            exact HTail.out.2.2)
        all_goals clear hw25 hpsx hcx harmx hl0 ha hw hd hk90
      all_goals
        obtain ⟨P, hP⟩ : ∃ P, P = w25.heap.size := ⟨_, rfl⟩
        obtain ⟨W26, hW26⟩ : ∃ W26, W26 = w25.alloc (.cells #[.int .u64 (f : Nat), .slice none 0 0, .int .i64 (sz : Nat)] 61) := ⟨_, rfl⟩
        have HB26 : Hid (W26.heap[P]? = some (.cells #[.int .u64 (f : Nat), .slice none 0 0, .int .i64 (sz : Nat)] 61 (0, 0))) := Lib.hid (by rw [hW26, hP]; exact heap_alloc_new w25 _)
        have HK26 : Hid (Kept (fun _ => False) w25 W26) := Lib.hid (by rw [hW26]; exact (Kept.refl _ _).alloc _)
        have HP9 : Hid (P = w25.heap.size ∧ W26.heap.size = P + 1) := Lib.hid ⟨hP, by rw [hW26, hP]; simp⟩
        go_upto_region 26 with fail
        rw [← hP, ← hW26]
        clear hP hW26
        go_wp2_with fail
        go_loopw [110] (fun i wx => ∃ (k : Nat) (A1 : Option Addr) (c1 : Nat), i = .int .i64 (k : Nat) ∧ k ≤ lr ∧ Hid (wx.heap[P]? = some (.cells #[.int .u64 (f : Nat), .slice A1 k c1, .int .i64 (sz : Nat)] 61 (0, 0))) ∧ Hid (wx.ownsRow W26.heap.size 30 1 (.slice A1 k c1) k ((rs.take k).map BV.val)) ∧ Hid (Kept (fun q => q = P) W26 wx)) (fun i _ => lr - (intOf i).toNat)
        case' atStart => exact ⟨0, none, 0, rfl, by omega, HB26, Lib.hid (World.ownsRow_nil _ _ _ _), Lib.hid (Kept.refl _ _)⟩
        obtain ⟨k, A1, c1, rfl, hk, hBx, hRx, hKx⟩ := hrel
        by_cases hkl : k < lr
        · have hk9 : (k : Int) < (lr : Int) := by omega
          obtain ⟨r, hr⟩ : ∃ r, rs[k]? = some r := ⟨_, List.getElem?_eq_getElem (by have := Hlr.out; omega)⟩
          obtain ⟨Gr, cr', hvr, hGr, -, hcellr⟩ := own_cell HRrx.out.1 (by omega)
          simp only [Value.slice.injEq, true_and] at hvr
          obtain ⟨rfl, rfl⟩ := hvr
          obtain ⟨p0, p1⟩ := cellsRc_at f rs k r hr
          have hGrP : Gr ≠ P := fun e => by
            have h1 := own_ltH HRrx.out.1 Gr hGr
            have := HP9.out.1
            omega
          have d0 := hKx.out.cell (HK26.out.cell (hcellr _ _ p0) (by simp)) hGrP
          have d1 := hKx.out.cell (HK26.out.cell (hcellr _ _ p1) (by simp)) hGrP
          obtain ⟨y, hy⟩ : ∃ y, y = f + k := ⟨_, rfl⟩
          rw [← hy] at d0
          unfold BV.val at d1
          have Hr := Lib.hid hr
          clear hcellr p0 p1 hy hr hGrP hGr
          go_upto_region 29 with fail
          obtain ⟨B2, hB2⟩ : ∃ B2, B2 = wr.heap.size := ⟨_, rfl⟩
          obtain ⟨V2, hV2⟩ : ∃ V2, V2 = wr.alloc (.cells #[.int .u64 (y : Nat), .slice r.A r.b.length r.c] 63) := ⟨_, rfl⟩
          have hKv : Kept (fun _ => False) wr V2 := by rw [hV2]; exact (Kept.refl _ wr).alloc _
          have hb2 : V2.heap[B2]? = some (.cells #[.int .u64 (y : Nat), .slice r.A r.b.length r.c] 63 (0, 0)) := by rw [hV2, hB2]; exact heap_alloc_new wr _
          have hbP := hKv.heap hBx.out (by simp)
          have y1 : V2.cell? ⟨B2, 1, none⟩ = some (.slice r.A r.b.length r.c) := by simp [World.cell?, hb2]
          have z1 : V2.cell? ⟨P, 1, none⟩ = some (.slice A1 k c1) := by simp [World.cell?, hbP]
          have HKv := Lib.hid hKv
          have HRv := Lib.hid (own_kept hRx.out hKv (by simp))
          have HbP := Lib.hid hbP
          have HKxv : Hid (Kept (fun q => q = P) W26 V2) := Lib.hid (hKx.out.trans' (hKv.mono fun _ _ e => e.elim))
          rw [← hB2, ← hV2]
          clear hB2 hV2 hKv hb2 hbP d0 d1
          go_wp2_with (at_builtin; refine wpList_append_e elemBs rfl _ _ rfl W26.heap.size (.slice A1 k c1) k ((rs.take k).map BV.val) rfl (own_kept HRv.out ((Kept.refl (fun _ => False) V2).alloc _) (by simp)) _ 1 1 [.slice r.A r.b.length r.c] rfl (cs_new _ _ _) rfl (by simp [Value.oneCell']) (fun e => by cases e) (by omega) (Nat.le_trans HKxv.out.size ((Kept.refl (fun _ => False) V2).alloc _).size) ?_; intro v3 w3' hown hgrow; obtain ⟨A3, c3, rfl⟩ := own_slice hown; have HO3 := Lib.hid hown; have hkg := ((((Kept.refl (fun _ => False) V2).alloc (.cells #[.slice r.A r.b.length r.c] 30)).mono fun _ _ e => e.elim).trans' hgrow.kept); have hne : ∀ q, (Value.slice A1 k c1).ownBlock = some q → q ≠ P := (fun q e e2 => by have h1 := own_ge HRv.out q e; have h2 := HP9.out.2; omega); have HbP3 := Lib.hid (hkg.heap HbP.out fun e => hne P e rfl); have z3 : ∃ x, w3'.cell? ⟨P, 1, none⟩ = some x := ⟨.slice A1 k c1, by simp [World.cell?, HbP3.out]⟩; have z3f : w3'.frozen? ⟨P, 1, none⟩ = false := (by simp [World.frozen?, HbP3.out]); obtain ⟨x3, z3⟩ := z3; have HK3' : Hid (Kept (fun q => q = P) W26 w3') := Lib.hid (HKxv.out.trans hkg fun q hq e => by have h1 := own_ge HRv.out q e; omega); clear hown hgrow hkg hne)
          go_roundw
          case rel =>
            have hb3 : (w3'.setCell ⟨P, 1, none⟩ (.slice A3 (k + 1) c3)).heap[P]? = some (.cells #[.int .u64 (f : Nat), .slice A3 (k + 1) c3, .int .i64 (sz : Nat)] 61 (0, 0)) := by
              simp only [World.setCell, Array.getElem?_modify, if_true, HbP3.out]; rfl
            refine ⟨k + 1, A3, c3, by go_num, by omega, Lib.hid hb3, Lib.hid ?_, Lib.hid (HK3'.out.trans' (kF _ P 1 _))⟩
            rw [List.take_add_one, Hr.out, Option.toList_some, List.map_append, List.map_singleton]
            refine own_kept HO3.out (kF _ P 1 _) fun q e e2 => ?_
            have h1 := own_ge HO3.out q e
            have h2 := HP9.out.2
            omega
          case measure => simp [intOf]; omega
        · obtain rfl : k = lr := by omega
          have hk9 : ¬ (k : Int) < (k : Int) := by omega
          go_upto_region 31 with fail
          have HK25 : Hid (Kept (fun _ => False) w25 wr) := Lib.hid (HK26.out.trans hKx.out fun q hq e => by have := HP9.out.1; omega)
          have HLr := Lib.hid (HLx.out.stay HK25.out)
          obtain ⟨Av, cv, hvf⟩ := own_slice HLr.out.row
          obtain ⟨mj, hmj⟩ : ∃ mj, mj = ms.length := ⟨_, rfl⟩
          have hmjj : mj = j := by
            have h1 := congrArg List.length Hms.out
            rw [List.length_take] at h1
            simp only [prts, List.length_map] at h1
            have := HLn.out
            omega
          rw [← hmj] at hvf
          have Hmj := Lib.hid hmj
          have hmj9 : mj ≤ 100000 := by omega
          have t2 := HLr.out.lb.c2
          have t2f := HLr.out.lb.fz 2
          rw [hvf] at t2
          have HRw : Hid (wr.ownsRow 0 61 3 v mj (cellsM ms)) := Lib.hid (by have := HLr.out.row; unfold RowM at this; rw [← hmj] at this; exact this)
          have hvT : Hid (v.ownBlock ≠ some T) := Lib.hid (HLr.out.lb.noRow HLr.out.row (by decide))
          have HTl := Lib.hid HLr.out.lb.lt
          have q0 : wr.cell? ⟨P, 0, none⟩ = some (.int .u64 (f : Nat)) := by simp [World.cell?, hBx.out]
          have q1 : wr.cell? ⟨P, 1, none⟩ = some (.slice A1 k c1) := by simp [World.cell?, hBx.out]
          have q2 : wr.cell? ⟨P, 2, none⟩ = some (.int .i64 (sz : Nat)) := by simp [World.cell?, hBx.out]
          have HFin : Hid (∀ (W7 W9 : World) (A8 : Option Addr) (c8 : Nat), Kept (fun _ => False) wr W7 → W9.ownsRow 0 61 3 (.slice A8 (mj + 1) c8) (mj + 1) (cellsM ms ++ [.int .u64 (f : Nat), .slice A1 k c1, .int .i64 (sz : Nat)]) → Grew W7 W9 v (.slice A8 (mj + 1) c8) →
              OpI w (W9.setCell ⟨T, 2, none⟩ (.slice A8 (mj + 1) c8)) T F M nm ps' c' lim arm' D sf (some ⟨Gf, 0, none⟩) ln cf (j + 1)) := Lib.hid fun W7 W9 A8 c8 hk7 ho9 hg9 => by
            have hkl2 : k = rs.length := Hlr.out
            have hrk : wr.ownsRow W26.heap.size 30 1 (.slice A1 rs.length c1) rs.length (rs.map BV.val) := by
              have h1 := hRx.out
              rwa [List.take_of_length_le (by omega), hkl2] at h1
            have hq9 : (⟨f, A1, c1, rs⟩ : PM).prt = q := by
              show (f, rs.map BV.b) = q
              rw [HRs.out, Hf.out]
            have hqc : (⟨f, A1, c1, rs⟩ : PM).cells = [.int .u64 (f : Nat), .slice A1 k c1, .int .i64 (sz : Nat)] := by
              unfold PM.cells PM.rv
              rw [hq9, ← HSz.out, ← hkl2]
            have hP9 := HP9.out
            have hw0 := HKwx.out.size
            obtain ⟨h1, h2, h3⟩ := HLx.out.add (q := ⟨f, A1, c1, rs⟩) (HK25.out.trans' hk7) (own_low (own_kept hrk hk7 (by simp)) (Nat.zero_le _)) (fun r hr => own_low (own_kept (HRrx.out.2 r hr) (HK25.out.trans' hk7) (by simp)) (Nat.zero_le _))
              (fun q' e hm => by have a1 := own_ge hrk q' e; have a2 := HLx.out.f.lt q' hm; omega) (fun p hp q' e e2 => by have a1 := own_ge hrk q' e2; have a2 := own_ltH (HLx.out.rr p hp) q' e; omega) HFr2.out (by rw [← Hmj.out, hqc]; exact ho9) hg9
            have hvw : ∀ i, v.ownBlock = some i → i ∈ foot F M ps' ∨ w.heap.size ≤ i := fun i e => HFtx.out i (.inr (.inr (.inl e)))
            refine ⟨_, ms ++ [⟨f, A1, c1, rs⟩], psx, cx, armx, h1, fun i e => ?_, HKwx.out.trans h2 fun i hi e => ?_, own_kept HRowx.out h2 fun i e e2 => ?_, ?_⟩
            · rcases e with e | e | e | ⟨p, hp, e⟩
              · exact .inr (by rw [e]; exact HT.out)
              · exact HFtx.out i (.inr (.inl e))
              · rcases h3 i e with e2 | e2
                · exact hvw i e2
                · exact .inr (by omega)
              · rcases List.mem_append.1 hp with hp | hp
                · exact HFtx.out i (.inr (.inr (.inr ⟨p, hp, e⟩)))
                · rw [List.mem_singleton.1 hp] at e
                  have a1 := own_ge hrk i e
                  exact .inr (by omega)
            · rcases e with e | e
              · have := HT.out; omega
              · exact (hvw i e).elim id fun e => by omega
            · rcases e2 with e2 | e2
              · exact HLx.out.lb.noRow HRowx.out (by decide) (e2 ▸ e)
              · exact own_two (by decide) HRowx.out HLx.out.row i e e2
            · have hpr : prts (ms ++ [⟨f, A1, c1, rs⟩]) = D.take j ++ [q] := by rw [prts_snoc, hq9, Hms.out]
              rcases HEnd.out with ⟨a1, a2, a3, a4, a5⟩ | ⟨a1, a2, a3, a4, a5, a6⟩
              · exact .inl ⟨a1, by rw [hpr, a2], a3, a4, a5⟩
              · exact .inr ⟨a1, by rw [hpr, a2], a3, a4, a5, a6⟩
          have htl : T < wr.heap.size := HTl.out
          have hpl : P < wr.heap.size := World.block_lt_of_cell? wr _ q0
          clear hmj hmjj
          go_region_law (refine step_append_e elemPt rfl _ _ rfl 0 v mj (cellsM ms) hvf.symm (own_kept HRw.out (by first | exact (Kept.refl (fun _ => False) wr).alloc _ | exact (Kept.refl (fun _ => False) wr).drew.alloc _) (by simp)) _ 1 1 [.int .u64 (f : Nat), .slice A1 k c1, .int .i64 (sz : Nat)] rfl (cs_new _ _ _) rfl (by simp [Value.oneCell']) (fun e => by cases e) (by omega) (Nat.zero_le _) ?_; intro v8 w9 hown hgrow; obtain ⟨A8, c8, rfl⟩ := own_slice hown; have HO8 := Lib.hid hown; have HG8 := Lib.hid hgrow; have HK78 : Hid (Kept (fun k => v.ownBlock = some k) wr w9) := (by first | exact Lib.hid ((((Kept.refl (fun _ => False) wr).alloc _).mono fun _ _ e => e.elim).trans' hgrow.kept) | exact Lib.hid ((((Kept.refl (fun _ => False) wr).drew.alloc _).mono fun _ _ e => e.elim).trans' hgrow.kept)); have u2 : ∃ x, w9.cell? ⟨T, 2, none⟩ = some x := ⟨_, HK78.out.cell t2 hvT.out⟩; have u2f : w9.frozen? ⟨T, 2, none⟩ = false := (World.frozen?_of_block (HK78.out.block T HTl.out hvT.out)).trans t2f; obtain ⟨x8, u2⟩ := u2; clear hown hgrow)
          all_goals
            have HX := Lib.hid (HFin.out _ _ _ _ (by first | exact (Kept.refl (fun _ => False) wr).alloc (.cells #[.int .u64 (f : Nat), .slice A1 k c1, .int .i64 (sz : Nat)] 61) | exact (Kept.refl (fun _ => False) wr).drew.alloc (.cells #[.int .u64 (f : Nat), .slice A1 k c1, .int .i64 (sz : Nat)] 61)) HO8.out HG8.out)
            clear t2 t2f q0 q1 q2 htl hpl u2 u2f
            go_wp2_with fail
            go_roundw
            case rel => exact ⟨j + 1, by go_num, by omega, HX⟩
            case measure => simp [intOf]; omega
    · obtain rfl : j = ln := by omega
      obtain ⟨v, ms, ps', c', arm', hL, hft, hK, hrow, hc⟩ := hI.out
      rcases hc with ⟨h9, -⟩ | ⟨-, hms, hld, hoth, ha, hu⟩
      · omega
      have HX : Hid (OpenLPost w F M nm ps lim arm D sf (.returned (.tuple #[.pointer (some ⟨T, 0, none⟩), .int .i64 0])) w0r) := Lib.hid (.inl ⟨T, v, ms, ps', c', arm', rfl, HT.out, hL, hms, hft, hK, hld, hoth, ha, hu⟩)
      clear hL hft hK hrow hms hld hoth ha hu hI
      have hj9 : ¬ (j : Int) < (j : Int) := by omega
      go_wp2
      go_ret2
      exact HX.out
end Go.Proofs.YtibalgfejfjndaaGreatDoor
end
