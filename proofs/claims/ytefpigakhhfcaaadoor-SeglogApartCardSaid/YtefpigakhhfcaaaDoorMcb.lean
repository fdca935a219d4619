import Derived.Test.YtefpigakhhfcaaaDoorMca
/-! A log in a law: its files, what else lies there; Append, Trim, Open again. -/
section
set_option linter.unusedVariables false
set_option linter.unusedSimpArgs false
namespace Go.Proofs.YtefpigakhhfcaaaDoor
open Go.RowKit

theorem hexN_mod : ∀ (n v : Nat), hexN n v = hexN n (v % 16 ^ n)
  | 0, _ => rfl
  | n + 1, v => by
    have h1 : v % 16 ^ (n + 1) / 16 = v / 16 % 16 ^ n := by
      rw [Nat.pow_succ, Nat.mul_comm, Nat.mod_mul]
      have : v % 16 < 16 := Nat.mod_lt _ (by decide)
      omega
    have h2 : v % 16 ^ (n + 1) % 16 = v % 16 := by
      rw [Nat.pow_succ, Nat.mod_mul_left_mod]
    rw [hexN, hexN, h1, h2, ← hexN_mod n (v / 16)]
theorem fileB_mod (nm : ByteArray) (u : Nat) : fileB nm u = fileB nm (u % 18446744073709551616) := by
  unfold fileB fileL
  rw [hexN_mod 16 u]
/-- The last segment has a record. -/
def LastNE (G : List Prt) : Prop := ∀ a q, G = a ++ [q] → q.2 ≠ []
theorem LastNE.norm {G : List Prt} (h : LastNE G) : logNorm G = G := by
  rcases List.eq_nil_or_concat G with rfl | ⟨a, q, rfl⟩
  · rfl
  · rw [List.concat_eq_append] at h ⊢
    rw [logNorm_snoc, if_neg fun e => h a q rfl e.1]
theorem LastNE.nil : LastNE [] := fun a q e => by simp at e
theorem LastNE.put (G : List Prt) (b : List UInt8) : LastNE (logPut G b) := fun a q e => by
  rcases List.eq_nil_or_concat G with rfl | ⟨x, p, rfl⟩
  · rw [logPut_nil, show [((0 : Nat), [b])] = [] ++ [(0, [b])] from rfl] at e
    obtain ⟨-, h⟩ := List.append_inj' e rfl
    simp at h; subst h; simp
  · rw [List.concat_eq_append, logPut_snoc] at e
    split at e
    · obtain ⟨-, h⟩ := List.append_inj' e rfl
      simp at h; subst h; simp
    · obtain ⟨-, h⟩ := List.append_inj' e rfl
      simp at h; subst h; simp
theorem LastNE.drop {G : List Prt} (h : LastNE G) (j : Nat) : LastNE (G.drop j) := fun a q e => h (G.take j ++ a) q (by rw [List.append_assoc, ← e, List.take_append_drop])
theorem Cont.drop {G : List Prt} (h : Cont G) (j : Nat) : Cont (G.drop j) := by
  rw [← List.take_append_drop j G] at h
  exact Cont.right h
theorem nxtP_drop {G : List Prt} {j : Nat} (h : j < G.length) : nxtP (G.drop j) = nxtP G := by
  unfold nxtP
  rw [List.getLast?_drop, if_neg (by omega)]
theorem Sml.drop {G : List Prt} {N : Nat} (h : Sml G N) (j : Nat) : Sml (G.drop j) N := by
  refine ⟨h.cont.drop j, ?_, fun p hp => h.len p (List.mem_of_mem_drop hp)⟩
  rcases Nat.lt_or_ge j G.length with hj | hj
  · rw [nxtP_drop hj]; exact h.nx
  · rw [List.drop_of_length_le hj]; simp [nxtP]
/-- A log in a law: d is what else lies there. -/
structure LW (w0 w : World) (d : Disk) (T F M : Nat) (nm : ByteArray) (ps : List PF) (clock : Nat) (lim : Int) (v : Value) (ms : List PM) (sf N U : Nat) : Prop where
  ls : LS w T F M nm ps clock lim 0 false v ms false sf N
  fo : ∀ k, LFoot T F M ps v ms k → w0.heap.size ≤ k
  kw : Kept (fun _ => False) w0 w
  us : usedL ps ≤ U
  ot : ∀ s, (∀ u, s ≠ fileB nm u) → lk ps s = d s
section
variable {w0 w w' : World} {d : Disk} {T F M : Nat} {nm : ByteArray} {ps : List PF} {clock : Nat} {lim : Int} {v : Value} {ms : List PM} {sf N U : Nat}
theorem LW.stay (h : LW w0 w d T F M nm ps clock lim v ms sf N U) (hk : Kept (fun _ => False) w w') : LW w0 w' d T F M nm ps clock lim v ms sf N U := ⟨h.ls.stay hk, h.fo, h.kw.trans' hk, h.us, h.ot⟩
theorem LW.few (h : LW w0 w d T F M nm ps clock lim v ms sf N U) : ms.length ≤ N + 1 := by have := h.ls.sm.few; rwa [prts, List.length_map] at this
theorem LW.mv {ps' : List PF} {v' : Value} {ms' : List PM} (h : LW w0 w d T F M nm ps clock lim v ms sf N U) (hm : MvL w T F M ps v ms ps' v' ms' w') : (∀ k, LFoot T F M ps' v' ms' k → w0.heap.size ≤ k) ∧ Kept (fun _ => False) w0 w' :=
  ⟨fun k e => (hm.feet k e).elim (h.fo k) fun e => Nat.le_trans h.kw.size e, h.kw.trans hm.kept fun i hi e => by have := h.fo i e; omega⟩
/-- Append, and what is behind. -/
def LWApp (w0 w : World) (d : Disk) (T F M : Nat) (nm : ByteArray) (ps : List PF) (lim : Int) (v : Value) (ms : List PM) (N U : Nat) (xs : List UInt8) (e : Ending) (w' : World) : Prop :=
  ∃ ps' c' v' ms' sf', e = .returned (.tuple #[.int .u64 ((nxtP (prts ms) : Nat) : Int), .int .i64 0]) ∧ LW w0 w' d T F M nm ps' c' lim v' ms' sf' (N + 1) (U + (16 + xs.length)) ∧ prts ms' = logPut (prts ms) xs ∧ MvL w T F M ps v ms ps' v' ms' w' ∧ ∀ q ∈ ms, BBs w' q.A q.rs
theorem LW.append {A : Option Addr} {n c : Nat} {xs : List UInt8} (h : LW w0 w d T F M nm ps clock lim v ms sf N U) (hN : N ≤ 10000) (hnm : nm.size ≤ 82) (hf : fullB nm = true) (hU : U + (16 + xs.length) ≤ 4194304) (hlim : ((U + (16 + xs.length) : Nat) : Int) ≤ lim)
    (hx : ∀ W, Kept (LFoot T F M ps v ms) w W → Bs W A xs) (hn : n = xs.length) (hA : A = none → c = 0) (hs : xs.length ≤ 2000) : Calls Tryd.prog 10 #[.pointer (some ⟨T, 0, none⟩), .slice A n c] w (LWApp w0 w d T F M nm ps lim v ms N U xs) := by
  have hu := h.us
  refine (slAppend_0 h.ls hN hnm hf (by omega) (by omega) hx hn hA hs).mono ?_
  rintro e w' ⟨ps', c', v', ms', sf', rfl, hl, hp, hm, hb, ho, hu'⟩
  obtain ⟨h1, h2⟩ := h.mv hm
  exact ⟨ps', c', v', ms', sf', rfl, ⟨hl, h1, h2, by omega, fun s hs => (ho s hs).trans (h.ot s hs)⟩, hp, hm, hb⟩
/-- Trim, and what is behind. -/
def LWTrim (w0 w : World) (d : Disk) (T F M : Nat) (nm : ByteArray) (ps : List PF) (lim : Int) (v : Value) (ms : List PM) (m N U : Nat) (e : Ending) (w' : World) : Prop :=
  ∃ ps' c' v' sf', e = .returned (.tuple #[.int .i64 ((trimN (prts ms) m : Nat) : Int), .int .i64 0]) ∧ LW w0 w' d T F M nm ps' c' lim v' (ms.drop (trimN (prts ms) m)) sf' N U ∧ MvL w T F M ps v ms ps' v' (ms.drop (trimN (prts ms) m)) w'
theorem LW.trim {most : Int} {m : Nat} (h : LW w0 w d T F M nm ps clock lim v ms sf N U) (hN : N ≤ 10000) (hnm : nm.size ≤ 82) (hm : (m : Int) = max most 0) : Calls Tryd.prog 17 #[.pointer (some ⟨T, 0, none⟩), .int .i64 most] w (LWTrim w0 w d T F M nm ps lim v ms m N U) := by
  refine (slTrim_any w T F M nm ps clock lim 0 v ms most m sf N h.ls hN hnm hm).mono ?_
  rintro e w' (⟨rfl, v', ps', c', arm', hl, hld, hmv, ho, ha, hu, -⟩ | ⟨ha, -⟩)
  · have ha0 := ha rfl
    subst ha0
    obtain ⟨h1, h2⟩ := h.mv hmv
    exact ⟨ps', c', v', sf, rfl, ⟨⟨hl, by rw [prts_drop]; exact hld, by rw [prts_drop]; exact h.ls.sm.drop _⟩, h1, h2, Nat.le_trans hu h.us, fun s hs => (ho s hs).trans (h.ot s hs)⟩, hmv⟩
  · exact absurd rfl ha
/-- How many files there are, where there are no others. -/
theorem LW.files (h : LW w0 w (fun _ => none) T F M nm ps clock lim v ms sf N U) (hN : N ≤ 10000) : ps.length ≤ N + 1 ∧ ∀ p ∈ ps, p.name.size = nm.size + 18 := by
  have key : ∀ p ∈ ps, p.name ∈ ((prts ms).map Prod.fst).map (fileB nm) := fun p hp => by
    have h1 : lk ps p.name ≠ none := lk_mem hp
    have h2 : ∃ u, p.name = fileB nm u := Classical.byContradiction fun hno => h1 (h.ot p.name fun u e => hno ⟨u, e⟩)
    obtain ⟨u, hu⟩ := h2
    rw [fileB_mod] at hu
    have hlt : u % 18446744073709551616 < 18446744073709551616 := Nat.mod_lt _ (by decide)
    rw [hu] at h1 ⊢
    exact List.mem_map_of_mem ((h.ls.ld.mem hlt).1 h1)
  refine ⟨?_, fun p hp => ?_⟩
  · have h1 := len_sub (S := ((prts ms).map Prod.fst).map (fileB nm)) h.ls.lg.f.names (fun x hx => by
      obtain ⟨p, hp, rfl⟩ := List.mem_map.1 hx
      exact key p hp)
    simp only [List.length_map] at h1
    have h2 := h.few
    have e : (prts ms).length = ms.length := by rw [prts, List.length_map]
    omega
  · obtain ⟨u, -, hu⟩ := List.mem_map.1 (key p hp)
    rw [← hu, size_fileB]
/-- Open again, and what is behind. -/
def LWOpen (w0 w : World) (F M : Nat) (nm : ByteArray) (ps : List PF) (lim : Int) (G : List Prt) (N : Nat) (e : Ending) (w' : World) : Prop :=
  ∃ T2 v' ms' ps' c', e = .returned (.tuple #[.pointer (some ⟨T2, 0, none⟩), .int .i64 0]) ∧ LG w' T2 F M nm ps' c' lim 0 false v' ms' false ∧ prts ms' = G ∧ (∀ q ∈ ms', BBs w' q.A q.rs) ∧ Kept (fun k => k ∈ foot F M ps) w w' ∧ Kept (fun _ => False) w0 w'
theorem LG.bbs {arm : Int} {dn dead : Bool} (h : LG w T F M nm ps clock lim arm dn v ms dead) : ∀ q ∈ ms, BBs w q.A q.rs := fun q hq j r hr => by
  obtain ⟨A, c, hv, hc, hA, -, -, -⟩ := Cs.of_row (h.rr q hq)
  unfold PM.rv at hv
  simp only [Value.slice.injEq, true_and] at hv
  obtain ⟨rfl, rfl⟩ := hv
  have hrm := List.mem_of_getElem? hr
  obtain ⟨A2, c2, hv2, -, hbs, hA2, -⟩ := Bs.of_own (h.own q hq r hrm)
  unfold BV.val at hv2
  simp only [Value.slice.injEq, true_and] at hv2
  obtain ⟨rfl, rfl⟩ := hv2
  cases hqa : q.A with
  | none => have := hc.1 hqa; rw [List.map_eq_nil_iff] at this; rw [this] at hr; simp at hr
  | some ad => exact ⟨ad, rfl, hc.2 ad hqa j _ (by rw [List.getElem?_map, hr]; rfl), hbs, hA2⟩
theorem LW.reopen (h : LW w0 w (fun _ => none) T F M nm ps clock lim v ms sf N U) (hN : N ≤ 400) (hnm : nm.size ≤ 82) (hf : fullB nm = true) (hne : LastNE (prts ms)) : Calls Tryd.prog 7 #[.pointer (some ⟨F, 0, none⟩), .string nm] w (LWOpen w0 w F M nm ps lim (prts ms) N) := by
  obtain ⟨hfi, hfn⟩ := h.files (by omega)
  have hsm := h.ls.sm
  refine (slOpen_any w F M nm ps clock lim 0 (prts ms) [] sf h.ls.lg.f ⟨hsm.cont, h.ls.ld, fun a q e => ⟨PartF.nil _, h.ls.sfl (by omega) a q e⟩, hsm.short, fun p hp => by have := (hsm.one hp).2.2; omega, by have := hsm.few; omega, by have := hsm.nx; omega, hnm, hf, by omega, fun p hp => by have := hfn p hp; omega⟩).mono ?_
  rintro e w' (⟨T2, v', ms', ps', c', arm', rfl, hT, hl, hp, hft, hk, -, -, ha, -⟩ | ⟨ps', c', rfl, ha, -⟩)
  · have ha0 : arm' = 0 := ha rfl
    subst ha0
    refine ⟨T2, v', ms', ps', c', rfl, hl, by rw [hp, hne.norm], hl.bbs, hk, h.kw.trans hk fun i hi e => ?_⟩
    have := h.fo i (.inr (.inl e))
    omega
  · cases ha
end
end Go.Proofs.YtefpigakhhfcaaaDoor
end

/-! courantlaw21.SeglogTrims, walked. -/
section
set_option linter.unusedVariables false
set_option linter.unusedSimpArgs false
namespace Go.Proofs.YtefpigakhhfcaaaDoor
open Go.RowKit

/-- A log that was just opened on new files. -/
def LWFirst (w0 : World) (F M : Nat) (nm : ByteArray) (lim : Int) (e : Ending) (w' : World) : Prop :=
  ∃ T v ps' c', e = .returned (.tuple #[.pointer (some ⟨T, 0, none⟩), .int .i64 0]) ∧ LW w0 w' (fun _ => none) T F M nm ps' c' lim v [] 0 0 0
theorem slOpen_first {w0 w : World} {F M : Nat} {nm : ByteArray} {lim : Int} (h : FilesAt w F M [] 0 lim 0 false) (hk : Kept (fun _ => False) w0 w) (hF : w0.heap.size ≤ F) (hM : w0.heap.size ≤ M) (hnm : nm.size ≤ 82) (hf : fullB nm = true) :
    Calls Tryd.prog 7 #[.pointer (some ⟨F, 0, none⟩), .string nm] w (LWFirst w0 F M nm lim) := by
  refine (slOpen_0 h (openL_none (fun u _ => rfl) hnm hf (by simp) (by simp))).mono ?_
  rintro e w' ⟨T, v, ps', c', rfl, hT, hl, hft, hk2, ho, hu⟩
  have hin : ∀ k, k ∈ foot F M [] → w0.heap.size ≤ k := fun k e => by
    have : k = F ∨ k = M := by simpa [foot] using e
    omega
  exact ⟨T, v, ps', c', rfl, hl, fun k e => (hft k e).elim (hin k) fun e => Nat.le_trans hk.size e, hk.trans hk2 fun i hi e => by have := hin i e; omega, hu, ho⟩
theorem make_run2 (W : World) (N : Nat) (hN : N < 1500) : (Instr.makeSlice 31 (.int .i64 (N : Int)) (.int .i64 (N : Int))).run Tryd.prog W = .ok (.slice (some ⟨W.heap.size, 0, none⟩) N N) (W.alloc (.cells ((mk0 N).map bv).toArray 5)) := by
  obtain ⟨i0, hi, hz0, hz1, hz2⟩ := info_parts infoU8
  have := run_makeSlice (P := Tryd.prog) W 31 5 i0 (.int .u8 0) Tryd.underlying31 hi hz0 .i64 .i64 (N : Int) (N : Int) (by omega) (Int.le_refl _) (by rw [hz1]; simp; omega) (by rw [hz2]; omega) (by omega)
  rw [this]
  have e : madeCells (Value.int .u8 0).cells ((N : Int).toNat * i0.size) = ((mk0 N).map bv).toArray := by
    apply Array.ext'
    rw [hz1, show (Value.int .u8 0).cells = #[.int .u8 0] from rfl, toList_madeCells_one]
    simp [mk0, bv]
  rw [e]
  simp
theorem bs_blk {W : World} {b : Nat} {xs : List UInt8} {t : TypeId} {mk : Nat × Nat} (h : W.heap[b]? = some (.cells (xs.map bv).toArray t mk)) : Bs W (some ⟨b, 0, none⟩) xs := by
  refine ⟨fun e => (by cases e), fun ad e j u hu => ?_⟩
  cases e
  have e1 : (⟨b, 0, none⟩ : Addr).add j = ⟨b, j, none⟩ := by unfold Addr.add; split <;> simp_all
  rw [e1]
  simp only [World.cell?, h]
  simpa using hu
theorem LW.mono {w0 w : World} {d : Disk} {T F M : Nat} {nm : ByteArray} {ps : List PF} {clock : Nat} {lim : Int} {v : Value} {ms : List PM} {sf N U V : Nat} (h : LW w0 w d T F M nm ps clock lim v ms sf N U) (hu : U ≤ V) : LW w0 w d T F M nm ps clock lim v ms sf N V := ⟨h.ls, h.fo, h.kw, Nat.le_trans h.us hu, h.ot⟩
theorem SegAt.cells {w : World} {b : Nat} {v : Value} {G : List Prt} (h : SegAt w b v G) (hG : G ≠ []) : ∃ g c, v = .slice (some ⟨g, 0, none⟩) G.length c ∧ G.length ≤ c ∧ ∀ (j : Nat) p, G[j]? = some p → w.cell? ⟨g, j * 2, none⟩ = some (.int .u64 (p.1 : Nat)) ∧ w.cell? ⟨g, j * 2 + 1, none⟩ = some (.int .i64 (szP p : Nat)) := by
  obtain ⟨A, c, hv, hs, -, hc, hA⟩ := h.form
  obtain ⟨p0, hp0⟩ : ∃ p, G[0]? = some p := by cases G with
    | nil => exact absurd rfl hG
    | cons p r => exact ⟨p, rfl⟩
  obtain ⟨ad, rfl, -⟩ := hs 0 p0 hp0
  obtain ⟨g, rfl, -⟩ := hA ad rfl
  refine ⟨g, c, hv, hc, fun j p hp => ?_⟩
  obtain ⟨ad, e, h1, h2⟩ := hs j p hp
  injection e with e
  subst e
  have e0 : ∀ n, (⟨g, 0, none⟩ : Addr).add n = ⟨g, n, none⟩ := fun n => by unfold Addr.add; split <;> simp_all <;> omega
  rw [e0] at h1 h2
  exact ⟨h1, h2⟩
/-- A part of a list of segments, from some place on. -/
theorem segB_form (A : Option Addr) (l lo c : Nat) (G : List Prt) (hl : l = G.length) (h1 : lo ≤ l) (hc : l ≤ c) :
    ∃ A2, (∀ W, (Instr.slice 47 (.slice A l c) (some (.int .i64 lo)) none none).run Tryd.prog W = .ok (.slice A2 (l - lo) (c - lo)) W) ∧ ∀ W, SgAt W A G → SgAt W A2 (G.drop lo) := by
  have hsz : ∀ W, (sizeOf 53).run Tryd.prog W = .ok 2 W := fun W => by kernel_rfl
  have h3 : (0 : Int) ≤ (lo : Int) ∧ (lo : Int) ≤ (l : Int) := by omega
  have h4 : (0 : Int) ≤ (l : Int) ∧ (l : Int) ≤ (c : Int) := by omega
  refine ⟨if c = lo then A else A.map (·.add (lo * 2)), fun W => ?_, fun W h => ?_⟩
  · simp only [Instr.slice, Sem.run_bind, run_underlying Tryd.underlying47, Result.andThen, Instr.sliceBounds, Instr.sliceBound, asIntOf, Sem.run_pure, if_pos h3, if_pos h4, hsz, Int.toNat_natCast]
  · by_cases h0 : c = lo
    · rw [if_pos h0, List.drop_of_length_le (by omega)]
      intro j p hp; simp at hp
    · rw [if_neg h0]
      intro j p hp
      rw [List.getElem?_drop] at hp
      obtain ⟨ad, rfl, g1, g2⟩ := h (lo + j) p hp
      have e : (ad.add (lo * 2)).add (j * 2) = ad.add ((lo + j) * 2) := by rw [Addr.add_add, Nat.add_mul]
      exact ⟨_, rfl, by rw [e]; exact g1, by rw [e]; exact g2⟩
theorem slNext_quiet {w : World} {T F : Nat} {nm : ByteArray} {dead : Bool} {v : Value} {ms : List PM} (h : LB w T F nm v dead) (hr : RowM w v ms) (hl : ms.length ≤ 1000000) (h64 : nxtP (prts ms) < 18446744073709551616) (a : Nat) : Calls Tryd.prog 15 #[.pointer (some ⟨T, 0, none⟩)] (w.drewN a) fun e w' => e = .returned (.int .u64 ((nxtP (prts ms) : Nat) : Int)) ∧ ∃ m, w' = (w.drewN a).drewN m := by
  have hk : Kept (fun _ => False) w (w.drewN a) := (Kept.refl _ w).drewN a
  have h' := h.kept hk (by simp)
  have hr' := hr.kept hk (by simp)
  rcases List.eq_nil_or_concat ms with rfl | ⟨a', q, rfl⟩
  · obtain ⟨A, c, rfl⟩ := hr'.nil
    refine (slNext_none _ T F nm A c dead h').mono ?_
    rintro e w' ⟨rfl, rfl⟩
    exact ⟨rfl, 0, rfl⟩
  · rw [List.concat_eq_append] at *
    obtain ⟨G, c, rfl, -, hc, -, -, hcell⟩ := hr'.form (by simp)
    rw [List.length_append, List.length_singleton] at h' hc hl
    obtain ⟨x0, x1, -⟩ := hcell a'.length q (by simp)
    have e : nxtP (prts (a' ++ [q])) = q.first + q.rs.length := by rw [prts_snoc, nxtP_snoc]; simp [endP, PM.prt]
    rw [e] at h64 ⊢
    exact slNext_some _ T F nm G a'.length c q.first q.rs.length q.c q.A dead h' (by omega) hc x0 x1 h64
theorem trimN_end : ∀ (G : List Prt) (m : Nat), (G.drop (trimN G m)).length ≤ 1 ∨ sumSz (G.drop (trimN G m)) ≤ m
  | [], m => .inl (by simp)
  | [p], m => .inl (by simp [trimN])
  | p :: q :: r, m => by
    unfold trimN
    split
    · next h => exact .inr (by simpa using h)
    · have := trimN_end (q :: r) m
      rw [Nat.add_comm, List.drop_succ_cons]
      exact this
theorem trimN_step : ∀ (G : List Prt) (m i : Nat), trimN G m = i + 1 → ∃ p, G[i]? = some p ∧ m < sumSz (G.drop (i + 1)) + szP p
  | [], m, i, h => by simp [trimN] at h
  | [p], m, i, h => by simp [trimN] at h
  | p :: q :: r, m, i, h => by
    unfold trimN at h
    split at h
    · simp at h
    · next hm =>
      cases i with
      | zero => exact ⟨p, rfl, by rw [sumSz_cons] at hm; simpa using (by omega : m < sumSz (q :: r) + szP p)⟩
      | succ i =>
        obtain ⟨p', h1, h2⟩ := trimN_step (q :: r) m i (by omega)
        exact ⟨p', by simpa using h1, by simpa using h2⟩
theorem nx_of {ms : List PM} {m J k nG : Nat} (hk : nxtP (prts ms) = k) (hG : nG = (prts ms).length) (hJ : J = trimN (prts ms) m) : nxtP (prts (ms.drop J)) = k := by
  rw [prts_drop]
  by_cases e : prts ms = []
  · rw [e] at hk ⊢; simpa using hk
  · have := trimN_lt (prts ms) m e
    rw [nxtP_drop (by omega)]; exact hk
/-- What is held while records are appended. -/
def TrA (w W : World) (T F M : Nat) (lim : Int) (k : Nat) : Prop := ∃ ps c v ms sf, LW w W (fun _ => none) T F M ⟨#[97]⟩ ps c lim v ms sf k (1516 * k) ∧ nxtP (prts ms) = k ∧ LastNE (prts ms)
end Go.Proofs.YtefpigakhhfcaaaDoor
end
