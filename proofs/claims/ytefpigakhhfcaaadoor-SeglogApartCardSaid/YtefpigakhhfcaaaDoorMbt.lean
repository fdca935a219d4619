import Derived.Test.YtefpigakhhfcaaaDoorMbs
/-! seglog.Trim. -/
section
set_option linter.unusedVariables false
set_option linter.unusedSimpArgs false
namespace Go.Proofs.YtefpigakhhfcaaaDoor
open Go.RowKit

/-- How many segments go. -/
def trimN : List Prt → Nat → Nat
  | p :: q :: r, m => if sumSz (p :: q :: r) ≤ m then 0 else 1 + trimN (q :: r) m
  | _, _ => 0
theorem trimN_few {G : List Prt} (m : Nat) (h : G.length < 2) : trimN G m = 0 := by
  match G, h with
  | [], _ => rfl
  | [p], _ => rfl
theorem trimN_fit {G : List Prt} {m : Nat} (h : sumSz G ≤ m) : trimN G m = 0 := by
  match G with
  | [] => rfl
  | [p] => rfl
  | p :: q :: r => unfold trimN; rw [if_pos h]
theorem trimN_more {G : List Prt} {m : Nat} (h : 2 ≤ G.length) (h2 : ¬ sumSz G ≤ m) : trimN G m = 1 + trimN (G.drop 1) m := by
  match G, h with
  | p :: q :: r, _ => show (if sumSz (p :: q :: r) ≤ m then 0 else 1 + trimN (q :: r) m) = _; rw [if_neg h2]; rfl
theorem trimN_lt : ∀ (G : List Prt) (m : Nat), G ≠ [] → trimN G m < G.length
  | [], _, h => absurd rfl h
  | [p], _, _ => by simp [trimN]
  | p :: q :: r, m, _ => by
    have h := trimN_lt (q :: r) m (by simp)
    unfold trimN
    split
    · simp
    · simp only [List.length_cons] at h ⊢; omega
theorem slice_from1Pt (W : World) (G n c : Nat) (h1 : 1 < n) (h2 : n ≤ c) : (Instr.slice 59 (.slice (some ⟨G, 0, none⟩) n c) (some (.int .i64 1)) none none).run Tryd.prog W = .ok (.slice (some ⟨G, 3, none⟩) (n - 1) (c - 1)) W := by
  have hsz : ∀ W, (sizeOf 71).run Tryd.prog W = .ok 3 W := fun W => by kernel_rfl
  have h3 : (0 : Int) ≤ (1 : Int) ∧ (1 : Int) ≤ (n : Int) := by omega
  have h4 : (0 : Int) ≤ (n : Int) ∧ (n : Int) ≤ (c : Int) := by omega
  have h5 : ¬ c = 1 := by omega
  simp only [Instr.slice, Sem.run_bind, run_underlying Tryd.underlying59, Result.andThen, Instr.sliceBounds, Instr.sliceBound, asIntOf, Sem.run_pure, if_pos h3, if_pos h4, hsz]
  simp [h5, Addr.add]
theorem Cs.drop3 {W : World} {G : Nat} {p : PM} {ms : List PM} (h : Cs W (some ⟨G, 0, none⟩) (cellsM (p :: ms))) : Cs W (some ⟨G, 3, none⟩) (cellsM ms) := by
  refine ⟨fun e => (by cases e), fun ad e j u hu => ?_⟩
  injection e with e
  subst e
  have e2 : cellsM (p :: ms) = p.cells ++ cellsM ms := rfl
  have h1 := h.2 ⟨G, 0, none⟩ rfl (j + 3) u (by rw [e2, List.getElem?_append_right (by simp [PM.cells])]; simpa [PM.cells] using hu)
  have e3 : (⟨G, 0, none⟩ : Addr).add (j + 3) = (⟨G, 3, none⟩ : Addr).add j := by
    unfold Addr.add
    split <;> split <;> simp_all <;> omega
  rwa [e3] at h1
section
variable {w w1 : World} {T F M : Nat} {nm : ByteArray} {ps : List PF} {clock : Nat} {lim arm : Int} {dn dead : Bool} {v v' : Value} {p : PM} {ms : List PM}
/-- The first segment goes: the row of the others is new. -/
theorem LG.tail (h : LG w T F M nm ps clock lim arm dn v (p :: ms) dead) (hk : Kept (fun _ => False) w w1) (hr : w1.ownsRow w.heap.size 71 3 v' ms.length (cellsM ms)) :
    LG (w1.setCell ⟨T, 2, none⟩ v') T F M nm ps clock lim arm dn v' ms dead ∧ MvL w T F M ps v (p :: ms) ps v' ms (w1.setCell ⟨T, 2, none⟩ v') := by
  have h1 := h.stay hk
  have hT := kF w1 T 2 v'
  have hfl := h.f.lt
  have hge := own_ge hr
  have hTl := h.lb.lt
  have st : ∀ {b e s n : Nat} {x : Value} {xs : List Value}, w1.ownsRow b e s x n xs → e ≠ 61 → (w1.setCell ⟨T, 2, none⟩ v').ownsRow b e s x n xs := fun {b e s n x xs} hx he => own_kept hx hT fun k e1 e2 => h1.lb.noRow hx he (e2 ▸ e1)
  refine ⟨⟨h1.f.kept hT fun k hm e => h.nT (e ▸ hm), h1.lb.s2 v', own_low (st hr (by decide)) (Nat.zero_le _), fun q hq => st (h1.rr q (List.mem_cons_of_mem _ hq)) (by decide), fun q hq r hrr => st (h1.own q (List.mem_cons_of_mem _ hq) r hrr) (by decide), h.nT,
    fun k e hm => ?_, fun q hq => h.nr q (List.mem_cons_of_mem _ hq), fun q hq => h.nq q (List.mem_cons_of_mem _ hq), (List.pairwise_cons.1 h.dj).2⟩, ⟨(hk.mono fun _ _ e => e.elim).trans' (hT.mono fun k _ e => .inl e), fun k e => ?_⟩⟩
  · have := hge k e
    have := hfl k hm
    omega
  · rcases e with e | e | e | ⟨q, hq, e⟩
    · exact .inl (.inl e)
    · exact .inl (.inr (.inl e))
    · exact .inr (hge k e)
    · exact .inl (.inr (.inr (.inr ⟨q, List.mem_cons_of_mem _ hq, e⟩)))
end
theorem prts_drop (ms : List PM) (j : Nat) : prts (ms.drop j) = (prts ms).drop j := by simp [prts]
/-- What is held when j segments have gone. -/
def TrI (w W : World) (T F M : Nat) (nm : ByteArray) (ps : List PF) (lim arm : Int) (dn : Bool) (v : Value) (ms : List PM) (m sf j : Nat) : Prop :=
  ∃ v' ps' c' arm', LG W T F M nm ps' c' lim arm' dn v' (ms.drop j) dn ∧ LogD (lk ps') nm ((prts ms).drop j) [] sf ∧ MvL w T F M ps v ms ps' v' (ms.drop j) W ∧ (∀ s, (∀ u, s ≠ fileB nm u) → lk ps' s = lk ps s) ∧ (arm = 0 → arm' = 0) ∧ usedL ps' ≤ usedL ps ∧
    trimN (prts ms) m = j + trimN ((prts ms).drop j) m
/-- What Trim answers and leaves. -/
def TrimPost (w : World) (T F M : Nat) (nm : ByteArray) (ps : List PF) (lim arm : Int) (v : Value) (ms : List PM) (m sf : Nat) (e : Ending) (w' : World) : Prop :=
  (e = .returned (.tuple #[.int .i64 ((trimN (prts ms) m : Nat) : Int), .int .i64 0]) ∧ TrI w w' T F M nm ps lim arm false v ms m sf (trimN (prts ms) m)) ∨
  (arm ≠ 0 ∧ e = .returned (.tuple #[.int .i64 0, .int .i64 13]) ∧ ∃ j, j < trimN (prts ms) m ∧ TrI w w' T F M nm ps lim arm true v ms m sf j)
set_option maxRecDepth 100000 in
set_option maxHeartbeats 8000000 in
theorem slTrim_any (w : World) (T F M : Nat) (nm : ByteArray) (ps : List PF) (clock : Nat) (lim arm : Int) (v : Value) (ms : List PM) (most : Int) (m sf N : Nat) (h : LS w T F M nm ps clock lim arm false v ms false sf N) (hN : N ≤ 10000) (hnm : nm.size ≤ 82) (hm : (m : Int) = max most 0) :
    Calls Tryd.prog 17 #[.pointer (some ⟨T, 0, none⟩), .int .i64 most] w (TrimPost w T F M nm ps lim arm v ms m sf) := by
  have HR := Lib.hid (slReady_ok w T F M nm v lim arm h.lg.lb h.lg.f.fb)
  have H0 : Hid (TrI w w T F M nm ps lim arm false v ms m sf 0) := Lib.hid ⟨v, ps, clock, arm, h.lg, h.ld, MvL.refl, fun _ _ => rfl, fun e => e, Nat.le_refl _, by simp⟩
  have HSm := Lib.hid h.sm
  have HFi : Hid (∀ W u, u ≤ 10000 → Calls Tryd.prog 22 #[.string nm, .int .u64 (u : Nat)] W fun e w' => e = .returned (.string (fileB nm u)) ∧ Kept (fun _ => False) W w') := Lib.hid fun W u hu => slFile_any W nm u (by omega) (by omega)
  have Hm := Lib.hid hm
  have hmx : max most 0 = (m : Int) := hm.symm
  obtain ⟨n, hn⟩ : ∃ n, n = ms.length := ⟨_, rfl⟩
  have Hn := Lib.hid hn
  have hn9 : n ≤ 10001 := by have := h.sm.few; rw [prts, List.length_map] at this; omega
  clear h hm hn
  go_enter Tryd.func17, Tryd.ntmps17
  go_wp2_with fail
  go_step3
  go_wp2_with (go_at_call 30; refine HR.out.mono ?_; rintro e w ⟨rfl, rfl⟩)
  go_step3
  go_wp2_with fail
  go_loopw [7] (fun x wr => ∃ j : Nat, x = .int .i64 (j : Nat) ∧ j ≤ n ∧ Hid (TrI w wr T F M nm ps lim arm false v ms m sf j)) (fun x _ => n - (intOf x).toNat)
  case atStart => exact ⟨0, rfl, by omega, H0⟩
  case round =>
    obtain ⟨j, rfl, hj, hI⟩ := hrel
    obtain ⟨v1, ps1, c1, arm1, hL, hD, hM, hO, ha, hu, htr⟩ := hI.out
    obtain ⟨A1, cv, rfl⟩ := own_slice hL.row
    obtain ⟨k, hk⟩ : ∃ k, k = (ms.drop j).length := ⟨_, rfl⟩
    have hkn : k = n - j := by rw [hk, List.length_drop]; have := Hn.out; omega
    have hrw := hL.row
    have hlg := hL
    have hmv := hM
    rw [← hk] at hL hM
    have e2 := hL.lb.c2
    obtain ⟨sz, hsz⟩ : ∃ sz, sz = sumSz (prts (ms.drop j)) := ⟨_, rfl⟩
    have HS : Hid (∀ W, Kept (fun _ => False) wr W → Calls Tryd.prog 39 #[.pointer (some ⟨T, 0, none⟩)] W fun e w' => e = .returned (.int .i64 (sz : Nat)) ∧ Kept (fun _ => False) W w') := Lib.hid (fun W hW => by
      have := slSize_any W T F nm (.slice A1 (ms.drop j).length cv) (ms.drop j) false (hlg.lb.kept hW (by simp)) (hrw.kept hW (by simp)) (by omega) (by
        rw [prts_drop]
        have h1 := sumSz_drop (prts ms) j
        have h2 := HSm.out.sum
        omega)
      rwa [← hsz] at this)
    have HLg := Lib.hid hL
    have HMv := Lib.hid hM
    have HD := Lib.hid hD
    have HO := Lib.hid hO
    have Ha := Lib.hid ha
    have Hu := Lib.hid hu
    have Htr := Lib.hid htr
    have Hk := Lib.hid hk
    have Hsz := Lib.hid hsz
    have hkn1 : k + j ≤ n := by omega
    have hkn2 : n ≤ k + j := by omega
    clear hlg hmv hL hM hD hO ha hu htr hk hsz hrw hkn
    by_cases h2 : k < 2
    · have h29 : (k : Int) < 2 := by omega
      have HX : Hid (TrimPost w T F M nm ps lim arm v ms m sf (.returned (.tuple #[.int .i64 (j : Nat), .int .i64 0])) wr) := Lib.hid (by
        have h9 : trimN (prts ms) m = j := by rw [Htr.out, trimN_few m (by rw [← prts_drop, prts, List.length_map, ← Hk.out]; exact h2)]; rfl
        exact .inl ⟨by rw [h9], by rw [h9]; exact hI.out⟩)
      go_wp2
      go_ret2
      exact HX.out
    have h29 : ¬ (k : Int) < 2 := by omega
    by_cases h3 : sz ≤ m
    · have h39 : (sz : Int) ≤ (m : Int) := by omega
      have HX : Hid (∀ W, Kept (fun _ => False) wr W → TrimPost w T F M nm ps lim arm v ms m sf (.returned (.tuple #[.int .i64 (j : Nat), .int .i64 0])) W) := Lib.hid (fun W hW => by
        have h9 : trimN (prts ms) m = j := by rw [Htr.out, trimN_fit (by rw [← prts_drop, ← Hsz.out]; exact h3)]; rfl
        obtain ⟨v1, ps1, c1, arm1, hL, hD, hM, hO, ha, hu, htr⟩ := hI.out
        exact .inl ⟨by rw [h9], by rw [h9]; exact ⟨v1, ps1, c1, arm1, hL.stay hW, hD, hM.trans (MvL.stay hW), hO, ha, hu, htr⟩⟩)
      go_wp2_with (go_at_call 39; refine (HS.out _ (Kept.refl _ _)).mono ?_; rintro e w2 ⟨rfl, hk2⟩; have HK2 := Lib.hid hk2; clear hk2)
      go_ret2
      exact HX.out _ HK2.out
    have h39 : ¬ (sz : Int) ≤ (m : Int) := by omega
    go_upto_region 6 with (go_at_call 39; refine (HS.out _ (Kept.refl _ _)).mono ?_; rintro e w2 ⟨rfl, hk2⟩; have HK2 := Lib.hid hk2; clear hk2)
    obtain ⟨p, L, hpL⟩ : ∃ p L, ms.drop j = p :: L := by
      cases h9 : ms.drop j with
      | nil => exfalso; have := Hk.out; rw [h9] at this; simp at this; omega
      | cons p L => exact ⟨p, L, rfl⟩
    have hL1 : 1 ≤ L.length := by have := Hk.out; rw [hpL, List.length_cons] at this; omega
    have hkL : k = L.length + 1 := by have := Hk.out; rw [hpL, List.length_cons] at this; omega
    have hLg2 := HLg.out.stay HK2.out
    obtain ⟨G, c', hvf, hob, hcn, hc9, hGl, hcell⟩ := hLg2.row.form (by rw [hpL]; simp)
    simp only [Value.slice.injEq] at hvf
    obtain ⟨rfl, -, rfl⟩ := hvf
    obtain ⟨g0, -, -⟩ := hcell 0 p (by rw [hpL]; rfl)
    rw [Nat.zero_mul] at g0
    obtain ⟨f, hf⟩ : ∃ f, f = p.first := ⟨_, rfl⟩
    rw [← hf] at g0
    have c0 := hLg2.lb.c0
    have c1' := hLg2.lb.c1
    have c2 := hLg2.lb.c2
    have hpm : p.prt ∈ prts ms := by
      have : p ∈ ms.drop j := by rw [hpL]; simp
      exact List.mem_map_of_mem (List.mem_of_mem_drop this)
    have hf9 : f ≤ 10000 := by have := (HSm.out.one hpm).1; have e : p.prt.1 = f := hf.symm; omega
    have hDr : (prts ms).drop j = p.prt :: prts L := by rw [← prts_drop, hpL]; rfl
    have hcD : Cont (p.prt :: prts L) := by
      have := HSm.out.cont
      rw [← List.take_append_drop j (prts ms), hDr] at this
      exact Cont.right this
    have hneL : prts L ≠ [] := fun e => by have h9 := congrArg List.length e; rw [prts, List.length_map, List.length_nil] at h9; omega
    have hlk : lk ps1 (fileB nm f) = some (frsP p.prt, szP p.prt) := by
      have h1 := HD.out f (by omega)
      have h2 : lookP (p.prt :: prts L) [] sf p.prt.1 = some (frsP p.prt, szP p.prt) := lookP_before (a := []) hneL hcD
      rw [hDr, hf, show p.first = p.prt.1 from rfl, h2] at h1
      rw [hf]; exact h1
    have hdr : LogD ((lk ps1).put (fileB nm f) none) nm (prts L) [] sf := by
      have h1 := HD.out
      rw [hDr] at h1
      have := h1.drop hneL hcD (by have e : p.prt.1 = f := hf.symm; omega)
      rw [hf]; exact this
    have HRm : Hid (∀ W, Kept (fun _ => False) w2 W → Calls Tryd.prog 27 #[.pointer (some ⟨F, 0, none⟩), .string (fileB nm f)] W fun e w' => ∃ er, e = .returned (.int .i64 er) ∧ OpR W F M ps1 lim arm1 ((lk ps1).put (fileB nm f) none) er w') := Lib.hid fun W hW => (remove_D (fileB nm f) _ (hLg2.stay hW).f hlk).mono fun _ _ h => opR_of h
    have HSs : Hid (∀ W S, Kept S w2 W → ¬ S T → ¬ S G → W.cell? ⟨T, 0, none⟩ = some (.pointer (some ⟨F, 0, none⟩)) ∧ W.cell? ⟨T, 1, none⟩ = some (.string nm) ∧ W.cell? ⟨T, 2, none⟩ = some (.slice (some ⟨G, 0, none⟩) k cv) ∧ W.cell? ⟨G, 0, none⟩ = some (.int .u64 (f : Nat))) := Lib.hid fun W S hk hS hG => ⟨hk.cell c0 hS, hk.cell c1' hS, hk.cell c2 hS, hk.cell g0 hG⟩
    have HGf : Hid (G ∉ foot F M ps1 ∧ G ≠ T) := Lib.hid ⟨hLg2.nv G hob, fun e => hLg2.lb.noRow hLg2.row (by decide) (e ▸ hob)⟩
    have HLg2 := Lib.hid hLg2
    have HpL := Lib.hid hpL
    have Hf := Lib.hid hf
    have HkL := Lib.hid hkL
    have HDr := Lib.hid hDr
    have Hdr := Lib.hid hdr
    have Hlk := Lib.hid hlk
    have HcD := Lib.hid hcD
    have HK1 : Hid (Kept (fun _ => False) w2 w2) := Lib.hid (Kept.refl _ _)
    have s1 := HSs.out w2 _ HK1.out (by simp) (by simp)
    have hk0 : 0 < k := by omega
    have hcv : k ≤ cv := by have := Hk.out; omega
    clear hLg2 hpL hcell g0 hf c0 c1' c2 hpm hDr hcD hneL hlk hdr hob hcn hc9 hGl hkL e2
    go_region_held3 (fun W => W.cell? ⟨T, 0, none⟩ = some (.pointer (some ⟨F, 0, none⟩)) ∧ W.cell? ⟨T, 1, none⟩ = some (.string nm) ∧ W.cell? ⟨T, 2, none⟩ = some (.slice (some ⟨G, 0, none⟩) k cv) ∧ W.cell? ⟨G, 0, none⟩ = some (.int .u64 (f : Nat))) (first | assumption | exact s1) (first
      | (go_at_call 33; refine (slMet_any w4 T F nm _ false er HLB4.out).mono ?_; rintro e w5 ⟨rfl, hl5, hk5⟩; have HL5 := Lib.hid hl5; have HK5 := Lib.hid hk5; have s5 : w5.cell? ⟨T, 0, none⟩ = some (.pointer (some ⟨F, 0, none⟩)) ∧ w5.cell? ⟨T, 1, none⟩ = some (.string nm) ∧ w5.cell? ⟨T, 2, none⟩ = some (.slice (some ⟨G, 0, none⟩) k cv) ∧ w5.cell? ⟨G, 0, none⟩ = some (.int .u64 (f : Nat)) := ⟨hl5.c0, hl5.c1, hl5.c2, hk5.cell s4.2.2.2 HGf.out.2⟩; clear hl5 hk5)
      | (go_at_call 27; refine (HRm.out _ HK3.out).mono ?_; rintro e w4 ⟨er, rfl, ps4, c4, h4⟩; have H4 := Lib.hid h4; have HKF : Hid (Kept (fun k => k ∈ foot F M ps1) w3 w4) := Lib.hid (by rcases h4 with ⟨_, _, hw, _⟩ | ⟨_, _, hw, _⟩ <;> exact hw.kept); have HLB4 := Lib.hid ((HLg2.out.stay HK3.out).lb.kept HKF.out HLg2.out.nT); have s4 := HSs.out w4 _ ((HK3.out.mono fun _ _ e => e.elim).trans' HKF.out) HLg2.out.nT HGf.out.1; clear h4)
      | (go_at_call 22; refine (HFi.out _ f hf9).mono ?_; rintro e w3 ⟨rfl, hk⟩; have HK3 : Hid (Kept (fun _ => False) w2 w3) := (by first | exact Lib.hid (HK1.out.trans' hk) | exact Lib.hid (HK1.out.drew.trans' hk)); have s3 := HSs.out w3 _ HK3.out (by simp) (by simp); clear hk))
    rcases H4.out with ⟨rfl, ha, hw, hd⟩ | ⟨rfl, ha, hw, hd⟩
    · have HX : Hid (TrimPost w T F M nm ps lim arm v ms m sf (.returned (.tuple #[.int .i64 0, .int .i64 13])) w5) := Lib.hid (by
        have hl5 : LG w5 T F M nm ps4 c4 lim (decA arm1) true (.slice (some ⟨G, 0, none⟩) k cv) (ms.drop j) true := ((HLg2.out.stay HK3.out).went hw).turn (by simpa using HL5.out) HK5.out
        have hm5 := ((HMv.out.trans (MvL.stay HK2.out)).trans (MvL.stay HK3.out)).trans ((MvL.went hw).trans (MvL.turn HK5.out))
        refine .inr ⟨fun e => ?_, rfl, j, ?_, _, ps4, c4, _, hl5, by rw [hd]; exact HD.out, hm5, fun s hs => by rw [hd]; exact HO.out s hs, fun e => decA0 (Ha.out e), ?_, Htr.out⟩
        · have := Ha.out e; omega
        · have h9 := Htr.out
          have h10 := trimN_more (G := (prts ms).drop j) (m := m) (by rw [HDr.out, List.length_cons, prts, List.length_map]; omega) (by rw [← prts_drop, ← Hsz.out]; exact h3)
          omega
        · have := used_same HLg.out.f.names hw.at_.names hd
          have := Hu.out
          omega)
      clear ha hw hd
      go_wp2
      try rw [Exit.noGoto_ret]
      go_ret2
      exact HX.out
    · go_upto_region 9 with fail
      have hl5 : LG w5 T F M nm ps4 c4 lim (decA arm1) false (.slice (some ⟨G, 0, none⟩) k cv) (p :: L) false := by
        have := ((HLg2.out.stay HK3.out).went hw).turn (by simpa using HL5.out) HK5.out
        rwa [HpL.out] at this
      have hm5 : MvL w T F M ps v ms ps4 (.slice (some ⟨G, 0, none⟩) k cv) (p :: L) w5 := by
        have := ((HMv.out.trans (MvL.stay HK2.out)).trans (MvL.stay HK3.out)).trans ((MvL.went hw).trans (MvL.turn HK5.out))
        rwa [HpL.out] at this
      have hu5 : usedL ps4 ≤ usedL ps := by
        have h8 := used_put HLg.out.f.names hw.at_.names hd
        have e0 : szV (none : Option FV) = 0 := rfl
        rw [e0] at h8
        have := Hu.out
        omega
      obtain ⟨k1, hk1⟩ : ∃ k1, k1 = k - 1 := ⟨_, rfl⟩
      obtain ⟨cv1, hcv1⟩ : ∃ cv1, cv1 = cv - 1 := ⟨_, rfl⟩
      have hsl : ∀ W, (Instr.slice 59 (.slice (some ⟨G, 0, none⟩) k cv) (some (.int .i64 1)) none none).run Tryd.prog W = .ok (.slice (some ⟨G, 3, none⟩) k1 cv1) W := fun W => by rw [hk1, hcv1]; exact slice_from1Pt W G k cv (by omega) hcv
      have hcs : Cs w5 (some ⟨G, 3, none⟩) (cellsM L) := by
        obtain ⟨A', c'', hv9, hcs, -⟩ := Cs.of_row hl5.row
        simp only [Value.slice.injEq] at hv9
        obtain ⟨rfl, -, rfl⟩ := hv9
        exact hcs.drop3
      have HCl : Hid (Calls Tryd.prog 36 #[.slice (some ⟨G, 3, none⟩) k1 cv1] w5 fun e w' => ∃ v, e = .returned v ∧ w'.ownsRow w5.heap.size 71 3 v L.length (cellsM L) ∧ Kept (fun _ => False) w5 w') := Lib.hid (cloneParts_any w5 _ k1 cv1 L (by have := HkL.out; omega) (by omega) hcs (fun e => by cases e))
      have c5 := hl5.lb.c2
      have f5 := hl5.lb.fz 2
      have Hl5 := Lib.hid hl5
      have Hm5 := Lib.hid hm5
      have Hu5 := Lib.hid hu5
      have Hd := Lib.hid hd
      clear hl5 hm5 hu5 hk1 hcv1 hcs ha hw hd
      go_upto_region 10 with (go_at_call 36; refine HCl.out.mono ?_; rintro e w6 ⟨v6, rfl, ho6, hk6⟩; obtain ⟨A6, c6, rfl⟩ := own_slice ho6; have HO6 := Lib.hid ho6; have HK6 := Lib.hid hk6; have g2 := hk6.cell c5 (by simp); have gf : w6.frozen? ⟨T, 2, none⟩ = false := (World.frozen?_of_block (hk6.block T Hl5.out.lb.lt (by simp))).trans f5; clear ho6 hk6)
      have HX : Hid (TrI w (w6.setCell ⟨T, 2, none⟩ (.slice A6 L.length c6)) T F M nm ps lim arm false v ms m sf (j + 1)) := Lib.hid (by
        obtain ⟨h1, h2⟩ := Hl5.out.tail HK6.out HO6.out
        have hdj : ms.drop (j + 1) = L := by
          have := congrArg (List.drop 1) HpL.out
          rw [List.drop_drop] at this
          simpa [Nat.add_comm] using this
        refine ⟨_, ps4, c4, _, by rw [hdj]; exact h1, ?_, by rw [hdj]; exact Hm5.out.trans h2, fun s hs => by rw [Hd.out, Disk.put_ne _ _ (hs f)]; exact HO.out s hs, fun e => decA0 (Ha.out e), Hu5.out, ?_⟩
        · rw [← prts_drop, hdj, Hd.out]; exact Hdr.out
        · have h10 := trimN_more (G := (prts ms).drop j) (m := m) (by rw [HDr.out, List.length_cons, prts, List.length_map]; omega) (by rw [← prts_drop, ← Hsz.out]; exact h3)
          rw [List.drop_drop] at h10
          have := Htr.out
          rw [Nat.add_comm j 1] at *
          omega)
      clear hsl c5 f5 g2 gf
      go_wp2
      go_roundw
      case rel => exact ⟨j + 1, by go_num, by omega, HX⟩
      case measure => simp [intOf]; omega
end Go.Proofs.YtefpigakhhfcaaaDoor
end
