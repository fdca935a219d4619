import Derived.Test.YtibalgfejfjndaaGreatDoorMas
import Derived.Lib.SlBytesConst
import Derived.ArgAppend
import Derived.WalkKit
import Derived.ProofKit
import Derived.OpenShut
import Derived.Below
import Derived.ChangeMaps5
import Derived.ShutString
import Derived.Deep.Slices
import Derived.SizedLaws
import Derived.Deep.DeepHandedRow
import Derived.Deep.DeepLaidRun
/-! courantlaw21.awake; a log opened on files that have none of its name. -/
section
set_option linter.unusedVariables false
set_option linter.unusedSimpArgs false
namespace Go.Proofs.YtibalgfejfjndaaGreatDoor
open Go.RowKit

theorem LG.foot_lt {w : World} {T F M : Nat} {nm : ByteArray} {ps : List PF} {clock : Nat} {lim arm : Int} {dn dead : Bool} {v : Value} {ms : List PM} (h : LG w T F M nm ps clock lim arm dn v ms dead) : ∀ k, LFoot T F M ps v ms k → k < w.heap.size := fun k e => by
  rcases e with rfl | e | e | ⟨p, hp, e⟩
  · exact h.lb.lt
  · exact h.f.lt k e
  · exact own_ltH h.row k e
  · exact own_ltH (h.rr p hp) k e
/-- What Open wants where nothing lies. -/
theorem openL_none {ps : List PF} {nm : ByteArray} (hd : ∀ u, u < 18446744073709551616 → lk ps (fileB nm u) = none) (hnm : nm.size ≤ 82) (hf : fullB nm = true) (hn : ps.length ≤ 100000) (hs : ∀ p ∈ ps, p.name.size ≤ 1000000) : OpenLPre ps nm [] [] 0 :=
  ⟨trivial, fun u hu => by rw [hd u hu]; rfl, (fun a q e => by simp at e), (fun p hp => by cases hp), (fun p hp => by cases hp), by simp, by simp [nxtP], hnm, hf, hn, hs⟩
/-- A log that was just opened, nothing lying there. -/
def Open0 (w : World) (F M : Nat) (nm : ByteArray) (ps : List PF) (lim : Int) (e : Ending) (w' : World) : Prop :=
  ∃ T v ps' c', e = .returned (.tuple #[.pointer (some ⟨T, 0, none⟩), .int .i64 0]) ∧ w.heap.size ≤ T ∧ LS w' T F M nm ps' c' lim 0 false v [] false 0 0 ∧ (∀ k, LFoot T F M ps' v [] k → k ∈ foot F M ps ∨ w.heap.size ≤ k) ∧ Kept (fun k => k ∈ foot F M ps) w w' ∧ (∀ s, (∀ u, s ≠ fileB nm u) → lk ps' s = lk ps s) ∧ usedL ps' ≤ usedL ps
theorem slOpen_0 {w : World} {F M : Nat} {nm : ByteArray} {ps : List PF} {clock : Nat} {lim : Int} (h : FilesAt w F M ps clock lim 0 false) (hp : OpenLPre ps nm [] [] 0) :
    Calls Tryz.prog 5 #[.pointer (some ⟨F, 0, none⟩), .string nm] w (Open0 w F M nm ps lim) := by
  refine (slOpen_any w F M nm ps clock lim 0 [] [] 0 h hp).mono ?_
  rintro e w' (⟨T, v, ms, ps', c', arm', rfl, hT, hl, hm, hft, hk, hld, ho, ha, hu⟩ | ⟨ps', c', rfl, ha, -⟩)
  · have ha0 := ha rfl
    subst ha0
    have hm0 : ms = [] := by
      have := congrArg List.length hm
      rw [prts, List.length_map] at this
      exact List.eq_nil_of_length_eq_zero this
    subst hm0
    exact ⟨T, v, ps', c', rfl, hT, ⟨hl, hld, Sml.nil⟩, hft, hk, ho, hu⟩
  · cases ha
section
variable {w : World} {T F M : Nat} {nm : ByteArray} {ps : List PF} {clock : Nat} {lim arm : Int} {dn dead : Bool} {v : Value} {ms : List PM}
theorem slNext_any (h : LB w T F nm v dead) (hr : RowM w v ms) (hl : ms.length ≤ 1000000) (h64 : nxtP (prts ms) < 18446744073709551616) : Calls Tryz.prog 18 #[.pointer (some ⟨T, 0, none⟩)] w fun e w' => e = .returned (.int .u64 ((nxtP (prts ms) : Nat) : Int)) ∧ Kept (fun _ => False) w w' := by
  rcases List.eq_nil_or_concat ms with rfl | ⟨a, q, rfl⟩
  · obtain ⟨A, c, rfl⟩ := hr.nil
    refine (slNext_none w T F nm A c dead h).mono ?_
    rintro e w' ⟨rfl, rfl⟩
    exact ⟨rfl, Kept.refl _ _⟩
  · rw [List.concat_eq_append] at *
    obtain ⟨G, c, rfl, -, hc, -, -, hcell⟩ := hr.form (by simp)
    rw [List.length_append, List.length_singleton] at h hc hl
    obtain ⟨x0, x1, -⟩ := hcell a.length q (by simp)
    have e : nxtP (prts (a ++ [q])) = q.first + q.rs.length := by rw [prts_snoc, nxtP_snoc]; simp [endP, PM.prt]
    rw [e] at h64 ⊢
    refine (slNext_some w T F nm G a.length c q.first q.rs.length q.c q.A dead h (by omega) hc x0 x1 h64).mono ?_
    rintro e w' ⟨rfl, m, rfl⟩
    exact ⟨rfl, (Kept.refl _ _).drewN _⟩
theorem slFirst_any (h : LB w T F nm v dead) (hr : RowM w v ms) : Calls Tryz.prog 48 #[.pointer (some ⟨T, 0, none⟩)] w fun e w' => e = .returned (.int .u64 ((fstP (prts ms) : Nat) : Int)) ∧ w' = w := by
  cases ms with
  | nil =>
    obtain ⟨A, c, rfl⟩ := hr.nil
    exact slFirst_none w T F nm A c dead h
  | cons q a =>
    obtain ⟨G, c, rfl, -, hc, -, -, hcell⟩ := hr.form (by simp)
    obtain ⟨x0, -, -⟩ := hcell 0 q rfl
    rw [Nat.zero_mul] at x0
    exact slFirst_some w T F nm G _ c q.first dead h (by simp) x0
end
theorem nmL_full : fullB ⟨#[97]⟩ = true := by kernel_rfl
theorem put_two : logPut [(0, [[120]])] [121] = [(0, [[120], [121]])] := by
  rw [show [((0 : Nat), [([120] : List UInt8)])] = [] ++ [(0, [[120]])] from rfl, logPut_snoc, if_neg (by rw [szP_eq]; decide)]; rfl
theorem bound_1000 : boundI 1000 = 1000 := by decide
/-- A record of one byte, in a block of its own, on a small log; what is behind. -/
def LApp1 (w0 w : World) (T F M : Nat) (nm : ByteArray) (lim : Int) (N n : Nat) (G : List Prt) (u : Nat) (e : Ending) (w' : World) : Prop :=
  e = .returned (.tuple #[.int .u64 (n : Nat), .int .i64 0]) ∧ ∃ ps' c' v' ms' sf', LS w' T F M nm ps' c' lim 0 false v' ms' false sf' (N + 1) ∧ prts ms' = G ∧ (∀ k, LFoot T F M ps' v' ms' k → w0.heap.size ≤ k) ∧ Kept (fun _ => False) w0 w' ∧ usedL ps' ≤ u
theorem slAppend_1 {w0 w : World} {T F M : Nat} {nm : ByteArray} {ps : List PF} {clock : Nat} {lim : Int} {v : Value} {ms : List PM} {sf N b u : Nat} {x : UInt8} {G : List Prt} {mk : Nat × Nat} (h : LS w T F M nm ps clock lim 0 false v ms false sf N) (hN : N ≤ 10000) (hnm : nm.size ≤ 82) (hf : fullB nm = true)
    (hfo : ∀ k, LFoot T F M ps v ms k → w0.heap.size ≤ k) (hk : Kept (fun _ => False) w0 w) (hu : usedL ps ≤ u) (hlim : ((u + 17 : Nat) : Int) ≤ lim) (hu9 : u ≤ 4000000) (hb : w.heap[b]? = some (.cells #[.int .u8 x.toNat] 5 mk)) (hbn : ¬ LFoot T F M ps v ms b) (hG : logPut (prts ms) [x] = G) {n : Nat} (hn : nxtP (prts ms) = n) :
    Calls Tryz.prog 17 #[.pointer (some ⟨T, 0, none⟩), .slice (some ⟨b, 0, none⟩) 1 1] w (LApp1 w0 w T F M nm lim N n G (u + 17)) := by
  have hx : ∀ W, Kept (LFoot T F M ps v ms) w W → Bs W (some ⟨b, 0, none⟩) [x] := fun W hW => by
    have hc := hW.heap hb hbn
    refine ⟨fun e => (by cases e), fun ad e j y hy => ?_⟩
    injection e with e
    subst e
    cases j with
    | zero => simp at hy; subst hy; simp [Addr.add, World.cell?, hc, bv]
    | succ j => simp at hy
  refine (slAppend_0 (A := some ⟨b, 0, none⟩) (n := 1) (c := 1) (xs := [x]) h hN hnm hf (by simp; omega) (by simp; omega) hx rfl (fun e => by cases e) (by simp)).mono ?_
  rintro e w' ⟨ps', c', v', ms', sf', rfl, hl, hp, hm, -, -, hu'⟩
  refine ⟨by rw [hn], ps', c', v', ms', sf', hl, by rw [hp, hG], fun k hk2 => ?_, hk.trans hm.kept fun i hi e => ?_, ?_⟩
  · rcases hm.feet k hk2 with e | e
    · exact hfo k e
    · exact Nat.le_trans hk.size e
  · have := hfo i e; omega
  · simp at hu'; omega
set_option maxRecDepth 100000 in
set_option maxHeartbeats 8000000 in
theorem awake21_any (w : World) : Calls Tryz.prog 6 #[] w fun e w' => e = .returned (.bool true) ∧ Kept (fun _ => False) w w' := by
  have HN := Lib.hid (new_any w 1000)
  have kc := fun (w : World) (C : Array Value) (n c : Nat) => Lib.run_convert_bytes_const (P := Tryz.prog) w 30 5 C n c Tryz.underlying30 Tryz.underlying5
  go_enter Tryz.func6, Tryz.ntmps6
  go_upto_region 4 with (first
    | (go_at_call 4; refine HN.out.mono ?_; rintro e w1 ⟨F, M, rfl, hF, hk, hF1, hM1⟩; have HF := Lib.hid hF; have HK1 := Lib.hid hk; have HF1 := Lib.hid hF1; have HM1 := Lib.hid hM1; clear hF hk hF1 hM1)
    | (go_at_call 5; refine (slOpen_0 (nm := ⟨#[97]⟩) HF.out (openL_none (fun u _ => rfl) (by decide) nmL_full (by simp) (by simp))).mono ?_; rintro e w2 ⟨T, v, ps2, c2, rfl, hT, hl, hft, hk, -, hu⟩; have HT := Lib.hid hT; have HL2 := Lib.hid hl; have HFt := Lib.hid hft; have HK2 := Lib.hid hk; have Hu := Lib.hid hu; clear hT hl hft hk hu))
  have hfo2 : ∀ k, LFoot T F M ps2 v [] k → w.heap.size ≤ k := fun k e => by
    have h1 := HK1.out.size
    rcases HFt.out k e with e | e
    · have h2 := HF1.out
      have h3 := HM1.out
      have : k = F ∨ k = M := by simpa [foot] using e
      omega
    · omega
  have hkw2 : Kept (fun _ => False) w w2 := HK1.out.trans HK2.out fun i hi e => by
    have h2 := HF1.out
    have h3 := HM1.out
    have : i = F ∨ i = M := by simpa [foot] using e
    omega
  obtain ⟨b, hb⟩ : ∃ b, b = w2.heap.size := ⟨_, rfl⟩
  obtain ⟨W3, hW3⟩ : ∃ W3, W3 = w2.alloc (.cells #[.int .u8 120] 5 (1, 2)) := ⟨_, rfl⟩
  have hk3 : Kept (fun _ => False) w2 W3 := by rw [hW3]; exact (Kept.refl _ w2).alloc _
  have hu0 : usedL ps2 ≤ 0 := Hu.out
  have HA := Lib.hid (slAppend_1 (w0 := w) (b := b) (u := 0) (x := 120) (G := [(0, [[120]])]) (n := 0) (HL2.out.stay hk3) (by omega) (by decide) nmL_full hfo2 (hkw2.trans' hk3) hu0 (by rw [bound_1000]; decide) (by omega) (by rw [hW3, hb]; exact heap_alloc_new w2 _) (fun e => by have := HL2.out.lg.foot_lt b e; omega) rfl rfl)
  clear hfo2 hkw2 hk3 hu0
  go_upto_region 5 with (go_at_call 17; rw [← hW3, ← hb]; refine HA.out.mono ?_; rintro e w4 ⟨rfl, ps4, c4, v4, ms4, sf4, hl4, hp4, hfo4, hkw4, hu4⟩; have HL4 := Lib.hid hl4; have HP4 := Lib.hid hp4; have HFo4 := Lib.hid hfo4; have HKw4 := Lib.hid hkw4; have HU4 := Lib.hid hu4; clear hl4 hp4 hfo4 hkw4 hu4)
  obtain ⟨b2, hb2⟩ : ∃ b2, b2 = w4.heap.size := ⟨_, rfl⟩
  obtain ⟨W5, hW5⟩ : ∃ W5, W5 = w4.alloc (.cells #[.int .u8 121] 5 (1, 2)) := ⟨_, rfl⟩
  have hk5 : Kept (fun _ => False) w4 W5 := by rw [hW5]; exact (Kept.refl _ w4).alloc _
  have HA2 := Lib.hid (slAppend_1 (w0 := w) (b := b2) (u := 17) (x := 121) (G := [(0, [[120], [121]])]) (n := 1) (HL4.out.stay hk5) (by omega) (by decide) nmL_full HFo4.out (HKw4.out.trans' hk5) HU4.out (by rw [bound_1000]; decide) (by omega) (by rw [hW5, hb2]; exact heap_alloc_new w4 _) (fun e => by have := HL4.out.lg.foot_lt b2 e; omega) (by rw [HP4.out]; exact put_two) (by rw [HP4.out]; rfl))
  clear hk5
  go_upto_region 6 with (go_at_call 17; rw [← hW5, ← hb2]; refine HA2.out.mono ?_; rintro e w6 ⟨rfl, ps6, c6, v6, ms6, sf6, hl6, hp6, hfo6, hkw6, hu6⟩; have HL6 := Lib.hid hl6; have HP6 := Lib.hid hp6; have HKw6 := Lib.hid hkw6; clear hl6 hp6 hfo6 hkw6 hu6)
  have HNx : Hid (Calls Tryz.prog 18 #[.pointer (some ⟨T, 0, none⟩)] w6 fun e w' => e = .returned (.int .u64 2) ∧ Kept (fun _ => False) w6 w') := Lib.hid (by
    have := slNext_any HL6.out.lg.lb HL6.out.lg.row (by have := HL6.out.sm.few; rw [prts, List.length_map] at this; omega) (by rw [HP6.out]; decide)
    rw [HP6.out] at this
    exact this)
  go_wp2_with (refine HNx.out.mono ?_; rintro e w7 ⟨rfl, hk7⟩; have HK7 := Lib.hid hk7; clear hk7)
  go_ret
  exact ⟨rfl, HKw6.out.trans' HK7.out⟩
end Go.Proofs.YtibalgfejfjndaaGreatDoor
end

/-! A log in a law: its files, what else lies there; Append, Trim, Open again. -/
section
set_option linter.unusedVariables false
set_option linter.unusedSimpArgs false
namespace Go.Proofs.YtibalgfejfjndaaGreatDoor
open Go.RowKit

theorem hexN_mod : ∀ (n v : Nat), hexN n v = hexN n (v % 16 ^ n)
  | 0, _ => rfl
  | n + 1, v => by
    have h1 : v % 16 ^ (n + 1) / 16 = v / 16 % 16 ^ n := by
      rw [Nat.pow_succ, Nat.mul_comm, Nat.mod_mul]
      have : v % 16 < 16 := Nat.mod_lt _ (by decide)
      omega
    have h2 : v % 16 ^ (n + 1) % 16 = v % 16 := by
      rw [Nat.pow_succ, Nat.mod_mul_left_mod]
    rw [hexN, hexN, h1, h2, ← hexN_mod n (v / 16)]
theorem fileB_mod (nm : ByteArray) (u : Nat) : fileB nm u = fileB nm (u % 18446744073709551616) := by
  unfold fileB fileL
  rw [hexN_mod 16 u]
/-- The last segment has a record. -/
def LastNE (G : List Prt) : Prop := ∀ a q, G = a ++ [q] → q.2 ≠ []
theorem LastNE.norm {G : List Prt} (h : LastNE G) : logNorm G = G := by
  rcases List.eq_nil_or_concat G with rfl | ⟨a, q, rfl⟩
  · rfl
  · rw [List.concat_eq_append] at h ⊢
    rw [logNorm_snoc, if_neg fun e => h a q rfl e.1]
theorem LastNE.nil : LastNE [] := fun a q e => by simp at e
theorem LastNE.put (G : List Prt) (b : List UInt8) : LastNE (logPut G b) := fun a q e => by
  rcases List.eq_nil_or_concat G with rfl | ⟨x, p, rfl⟩
  · rw [logPut_nil, show [((0 : Nat), [b])] = [] ++ [(0, [b])] from rfl] at e
    obtain ⟨-, h⟩ := List.append_inj' e rfl
    simp at h; subst h; simp
  · rw [List.concat_eq_append, logPut_snoc] at e
    split at e
    · obtain ⟨-, h⟩ := List.append_inj' e rfl
      simp at h; subst h; simp
    · obtain ⟨-, h⟩ := List.append_inj' e rfl
      simp at h; subst h; simp
theorem LastNE.drop {G : List Prt} (h : LastNE G) (j : Nat) : LastNE (G.drop j) := fun a q e => h (G.take j ++ a) q (by rw [List.append_assoc, ← e, List.take_append_drop])
theorem Cont.drop {G : List Prt} (h : Cont G) (j : Nat) : Cont (G.drop j) := by
  rw [← List.take_append_drop j G] at h
  exact Cont.right h
theorem nxtP_drop {G : List Prt} {j : Nat} (h : j < G.length) : nxtP (G.drop j) = nxtP G := by
  unfold nxtP
  rw [List.getLast?_drop, if_neg (by omega)]
theorem Sml.drop {G : List Prt} {N : Nat} (h : Sml G N) (j : Nat) : Sml (G.drop j) N := by
  refine ⟨h.cont.drop j, ?_, fun p hp => h.len p (List.mem_of_mem_drop hp)⟩
  rcases Nat.lt_or_ge j G.length with hj | hj
  · rw [nxtP_drop hj]; exact h.nx
  · rw [List.drop_of_length_le hj]; simp [nxtP]
/-- A log in a law: d is what else lies there. -/
structure LW (w0 w : World) (d : Disk) (T F M : Nat) (nm : ByteArray) (ps : List PF) (clock : Nat) (lim : Int) (v : Value) (ms : List PM) (sf N U : Nat) : Prop where
  ls : LS w T F M nm ps clock lim 0 false v ms false sf N
  fo : ∀ k, LFoot T F M ps v ms k → w0.heap.size ≤ k
  kw : Kept (fun _ => False) w0 w
  us : usedL ps ≤ U
  ot : ∀ s, (∀ u, s ≠ fileB nm u) → lk ps s = d s
section
variable {w0 w w' : World} {d : Disk} {T F M : Nat} {nm : ByteArray} {ps : List PF} {clock : Nat} {lim : Int} {v : Value} {ms : List PM} {sf N U : Nat}
theorem LW.stay (h : LW w0 w d T F M nm ps clock lim v ms sf N U) (hk : Kept (fun _ => False) w w') : LW w0 w' d T F M nm ps clock lim v ms sf N U := ⟨h.ls.stay hk, h.fo, h.kw.trans' hk, h.us, h.ot⟩
theorem LW.few (h : LW w0 w d T F M nm ps clock lim v ms sf N U) : ms.length ≤ N + 1 := by have := h.ls.sm.few; rwa [prts, List.length_map] at this
theorem LW.mv {ps' : List PF} {v' : Value} {ms' : List PM} (h : LW w0 w d T F M nm ps clock lim v ms sf N U) (hm : MvL w T F M ps v ms ps' v' ms' w') : (∀ k, LFoot T F M ps' v' ms' k → w0.heap.size ≤ k) ∧ Kept (fun _ => False) w0 w' :=
  ⟨fun k e => (hm.feet k e).elim (h.fo k) fun e => Nat.le_trans h.kw.size e, h.kw.trans hm.kept fun i hi e => by have := h.fo i e; omega⟩
/-- Append, and what is behind. -/
def LWApp (w0 w : World) (d : Disk) (T F M : Nat) (nm : ByteArray) (ps : List PF) (lim : Int) (v : Value) (ms : List PM) (N U : Nat) (xs : List UInt8) (e : Ending) (w' : World) : Prop :=
  ∃ ps' c' v' ms' sf', e = .returned (.tuple #[.int .u64 ((nxtP (prts ms) : Nat) : Int), .int .i64 0]) ∧ LW w0 w' d T F M nm ps' c' lim v' ms' sf' (N + 1) (U + (16 + xs.length)) ∧ prts ms' = logPut (prts ms) xs ∧ MvL w T F M ps v ms ps' v' ms' w' ∧ ∀ q ∈ ms, BBs w' q.A q.rs
theorem LW.append {A : Option Addr} {n c : Nat} {xs : List UInt8} (h : LW w0 w d T F M nm ps clock lim v ms sf N U) (hN : N ≤ 10000) (hnm : nm.size ≤ 82) (hf : fullB nm = true) (hU : U + (16 + xs.length) ≤ 4194304) (hlim : ((U + (16 + xs.length) : Nat) : Int) ≤ lim)
    (hx : ∀ W, Kept (LFoot T F M ps v ms) w W → Bs W A xs) (hn : n = xs.length) (hA : A = none → c = 0) (hs : xs.length ≤ 2000) : Calls Tryz.prog 17 #[.pointer (some ⟨T, 0, none⟩), .slice A n c] w (LWApp w0 w d T F M nm ps lim v ms N U xs) := by
  have hu := h.us
  refine (slAppend_0 h.ls hN hnm hf (by omega) (by omega) hx hn hA hs).mono ?_
  rintro e w' ⟨ps', c', v', ms', sf', rfl, hl, hp, hm, hb, ho, hu'⟩
  obtain ⟨h1, h2⟩ := h.mv hm
  exact ⟨ps', c', v', ms', sf', rfl, ⟨hl, h1, h2, by omega, fun s hs => (ho s hs).trans (h.ot s hs)⟩, hp, hm, hb⟩
/-- Trim, and what is behind. -/
def LWTrim (w0 w : World) (d : Disk) (T F M : Nat) (nm : ByteArray) (ps : List PF) (lim : Int) (v : Value) (ms : List PM) (m N U : Nat) (e : Ending) (w' : World) : Prop :=
  ∃ ps' c' v' sf', e = .returned (.tuple #[.int .i64 ((trimN (prts ms) m : Nat) : Int), .int .i64 0]) ∧ LW w0 w' d T F M nm ps' c' lim v' (ms.drop (trimN (prts ms) m)) sf' N U ∧ MvL w T F M ps v ms ps' v' (ms.drop (trimN (prts ms) m)) w'
theorem LW.trim {most : Int} {m : Nat} (h : LW w0 w d T F M nm ps clock lim v ms sf N U) (hN : N ≤ 10000) (hnm : nm.size ≤ 82) (hm : (m : Int) = max most 0) : Calls Tryz.prog 24 #[.pointer (some ⟨T, 0, none⟩), .int .i64 most] w (LWTrim w0 w d T F M nm ps lim v ms m N U) := by
  refine (slTrim_any w T F M nm ps clock lim 0 v ms most m sf N h.ls hN hnm hm).mono ?_
  rintro e w' (⟨rfl, v', ps', c', arm', hl, hld, hmv, ho, ha, hu, -⟩ | ⟨ha, -⟩)
  · have ha0 := ha rfl
    subst ha0
    obtain ⟨h1, h2⟩ := h.mv hmv
    exact ⟨ps', c', v', sf, rfl, ⟨⟨hl, by rw [prts_drop]; exact hld, by rw [prts_drop]; exact h.ls.sm.drop _⟩, h1, h2, Nat.le_trans hu h.us, fun s hs => (ho s hs).trans (h.ot s hs)⟩, hmv⟩
  · exact absurd rfl ha
/-- How many files there are, where there are no others. -/
theorem LW.files (h : LW w0 w (fun _ => none) T F M nm ps clock lim v ms sf N U) (hN : N ≤ 10000) : ps.length ≤ N + 1 ∧ ∀ p ∈ ps, p.name.size = nm.size + 18 := by
  have key : ∀ p ∈ ps, p.name ∈ ((prts ms).map Prod.fst).map (fileB nm) := fun p hp => by
    have h1 : lk ps p.name ≠ none := lk_mem hp
    have h2 : ∃ u, p.name = fileB nm u := Classical.byContradiction fun hno => h1 (h.ot p.name fun u e => hno ⟨u, e⟩)
    obtain ⟨u, hu⟩ := h2
    rw [fileB_mod] at hu
    have hlt : u % 18446744073709551616 < 18446744073709551616 := Nat.mod_lt _ (by decide)
    rw [hu] at h1 ⊢
    exact List.mem_map_of_mem ((h.ls.ld.mem hlt).1 h1)
  refine ⟨?_, fun p hp => ?_⟩
  · have h1 := len_sub (S := ((prts ms).map Prod.fst).map (fileB nm)) h.ls.lg.f.names (fun x hx => by
      obtain ⟨p, hp, rfl⟩ := List.mem_map.1 hx
      exact key p hp)
    simp only [List.length_map] at h1
    have h2 := h.few
    have e : (prts ms).length = ms.length := by rw [prts, List.length_map]
    omega
  · obtain ⟨u, -, hu⟩ := List.mem_map.1 (key p hp)
    rw [← hu, size_fileB]
/-- Open again, and what is behind. -/
def LWOpen (w0 w : World) (F M : Nat) (nm : ByteArray) (ps : List PF) (lim : Int) (G : List Prt) (N : Nat) (e : Ending) (w' : World) : Prop :=
  ∃ T2 v' ms' ps' c', e = .returned (.tuple #[.pointer (some ⟨T2, 0, none⟩), .int .i64 0]) ∧ LG w' T2 F M nm ps' c' lim 0 false v' ms' false ∧ prts ms' = G ∧ (∀ q ∈ ms', BBs w' q.A q.rs) ∧ Kept (fun k => k ∈ foot F M ps) w w' ∧ Kept (fun _ => False) w0 w'
theorem LG.bbs {arm : Int} {dn dead : Bool} (h : LG w T F M nm ps clock lim arm dn v ms dead) : ∀ q ∈ ms, BBs w q.A q.rs := fun q hq j r hr => by
  obtain ⟨A, c, hv, hc, hA, -, -, -⟩ := Cs.of_row (h.rr q hq)
  unfold PM.rv at hv
  simp only [Value.slice.injEq, true_and] at hv
  obtain ⟨rfl, rfl⟩ := hv
  have hrm := List.mem_of_getElem? hr
  obtain ⟨A2, c2, hv2, -, hbs, hA2, -⟩ := Bs.of_own (h.own q hq r hrm)
  unfold BV.val at hv2
  simp only [Value.slice.injEq, true_and] at hv2
  obtain ⟨rfl, rfl⟩ := hv2
  cases hqa : q.A with
  | none => have := hc.1 hqa; rw [List.map_eq_nil_iff] at this; rw [this] at hr; simp at hr
  | some ad => exact ⟨ad, rfl, hc.2 ad hqa j _ (by rw [List.getElem?_map, hr]; rfl), hbs, hA2⟩
theorem LW.reopen (h : LW w0 w (fun _ => none) T F M nm ps clock lim v ms sf N U) (hN : N ≤ 400) (hnm : nm.size ≤ 82) (hf : fullB nm = true) (hne : LastNE (prts ms)) : Calls Tryz.prog 5 #[.pointer (some ⟨F, 0, none⟩), .string nm] w (LWOpen w0 w F M nm ps lim (prts ms) N) := by
  obtain ⟨hfi, hfn⟩ := h.files (by omega)
  have hsm := h.ls.sm
  refine (slOpen_any w F M nm ps clock lim 0 (prts ms) [] sf h.ls.lg.f ⟨hsm.cont, h.ls.ld, fun a q e => ⟨PartF.nil _, h.ls.sfl (by omega) a q e⟩, hsm.short, fun p hp => by have := (hsm.one hp).2.2; omega, by have := hsm.few; omega, by have := hsm.nx; omega, hnm, hf, by omega, fun p hp => by have := hfn p hp; omega⟩).mono ?_
  rintro e w' (⟨T2, v', ms', ps', c', arm', rfl, hT, hl, hp, hft, hk, -, -, ha, -⟩ | ⟨ps', c', rfl, ha, -⟩)
  · have ha0 : arm' = 0 := ha rfl
    subst ha0
    refine ⟨T2, v', ms', ps', c', rfl, hl, by rw [hp, hne.norm], hl.bbs, hk, h.kw.trans hk fun i hi e => ?_⟩
    have := h.fo i (.inr (.inl e))
    omega
  · cases ha
end
end Go.Proofs.YtibalgfejfjndaaGreatDoor
end

/-! courantlaw21.SeglogTrims, walked. -/
section
set_option linter.unusedVariables false
set_option linter.unusedSimpArgs false
namespace Go.Proofs.YtibalgfejfjndaaGreatDoor
open Go.RowKit

/-- A log that was just opened on new files. -/
def LWFirst (w0 : World) (F M : Nat) (nm : ByteArray) (lim : Int) (e : Ending) (w' : World) : Prop :=
  ∃ T v ps' c', e = .returned (.tuple #[.pointer (some ⟨T, 0, none⟩), .int .i64 0]) ∧ LW w0 w' (fun _ => none) T F M nm ps' c' lim v [] 0 0 0
theorem slOpen_first {w0 w : World} {F M : Nat} {nm : ByteArray} {lim : Int} (h : FilesAt w F M [] 0 lim 0 false) (hk : Kept (fun _ => False) w0 w) (hF : w0.heap.size ≤ F) (hM : w0.heap.size ≤ M) (hnm : nm.size ≤ 82) (hf : fullB nm = true) :
    Calls Tryz.prog 5 #[.pointer (some ⟨F, 0, none⟩), .string nm] w (LWFirst w0 F M nm lim) := by
  refine (slOpen_0 h (openL_none (fun u _ => rfl) hnm hf (by simp) (by simp))).mono ?_
  rintro e w' ⟨T, v, ps', c', rfl, hT, hl, hft, hk2, ho, hu⟩
  have hin : ∀ k, k ∈ foot F M [] → w0.heap.size ≤ k := fun k e => by
    have : k = F ∨ k = M := by simpa [foot] using e
    omega
  exact ⟨T, v, ps', c', rfl, hl, fun k e => (hft k e).elim (hin k) fun e => Nat.le_trans hk.size e, hk.trans hk2 fun i hi e => by have := hin i e; omega, hu, ho⟩
theorem make_run2 (W : World) (N : Nat) (hN : N < 1500) : (Instr.makeSlice 30 (.int .i64 (N : Int)) (.int .i64 (N : Int))).run Tryz.prog W = .ok (.slice (some ⟨W.heap.size, 0, none⟩) N N) (W.alloc (.cells ((mk0 N).map bv).toArray 5)) := by
  obtain ⟨i0, hi, hz0, hz1, hz2⟩ := info_parts infoU8
  have := run_makeSlice (P := Tryz.prog) W 30 5 i0 (.int .u8 0) Tryz.underlying30 hi hz0 .i64 .i64 (N : Int) (N : Int) (by omega) (Int.le_refl _) (by rw [hz1]; simp; omega) (by rw [hz2]; omega) (by omega)
  rw [this]
  have e : madeCells (Value.int .u8 0).cells ((N : Int).toNat * i0.size) = ((mk0 N).map bv).toArray := by
    apply Array.ext'
    rw [hz1, show (Value.int .u8 0).cells = #[.int .u8 0] from rfl, toList_madeCells_one]
    simp [mk0, bv]
  rw [e]
  simp
theorem bs_blk {W : World} {b : Nat} {xs : List UInt8} {t : TypeId} {mk : Nat × Nat} (h : W.heap[b]? = some (.cells (xs.map bv).toArray t mk)) : Bs W (some ⟨b, 0, none⟩) xs := by
  refine ⟨fun e => (by cases e), fun ad e j u hu => ?_⟩
  cases e
  have e1 : (⟨b, 0, none⟩ : Addr).add j = ⟨b, j, none⟩ := by unfold Addr.add; split <;> simp_all
  rw [e1]
  simp only [World.cell?, h]
  simpa using hu
theorem LW.mono {w0 w : World} {d : Disk} {T F M : Nat} {nm : ByteArray} {ps : List PF} {clock : Nat} {lim : Int} {v : Value} {ms : List PM} {sf N U V : Nat} (h : LW w0 w d T F M nm ps clock lim v ms sf N U) (hu : U ≤ V) : LW w0 w d T F M nm ps clock lim v ms sf N V := ⟨h.ls, h.fo, h.kw, Nat.le_trans h.us hu, h.ot⟩
theorem SegAt.cells {w : World} {b : Nat} {v : Value} {G : List Prt} (h : SegAt w b v G) (hG : G ≠ []) : ∃ g c, v = .slice (some ⟨g, 0, none⟩) G.length c ∧ G.length ≤ c ∧ ∀ (j : Nat) p, G[j]? = some p → w.cell? ⟨g, j * 2, none⟩ = some (.int .u64 (p.1 : Nat)) ∧ w.cell? ⟨g, j * 2 + 1, none⟩ = some (.int .i64 (szP p : Nat)) := by
  obtain ⟨A, c, hv, hs, -, hc, hA⟩ := h.form
  obtain ⟨p0, hp0⟩ : ∃ p, G[0]? = some p := by cases G with
    | nil => exact absurd rfl hG
    | cons p r => exact ⟨p, rfl⟩
  obtain ⟨ad, rfl, -⟩ := hs 0 p0 hp0
  obtain ⟨g, rfl, -⟩ := hA ad rfl
  refine ⟨g, c, hv, hc, fun j p hp => ?_⟩
  obtain ⟨ad, e, h1, h2⟩ := hs j p hp
  injection e with e
  subst e
  have e0 : ∀ n, (⟨g, 0, none⟩ : Addr).add n = ⟨g, n, none⟩ := fun n => by unfold Addr.add; split <;> simp_all <;> omega
  rw [e0] at h1 h2
  exact ⟨h1, h2⟩
/-- A part of a list of segments, from some place on. -/
theorem segB_form (A : Option Addr) (l lo c : Nat) (G : List Prt) (hl : l = G.length) (h1 : lo ≤ l) (hc : l ≤ c) :
    ∃ A2, (∀ W, (Instr.slice 29 (.slice A l c) (some (.int .i64 lo)) none none).run Tryz.prog W = .ok (.slice A2 (l - lo) (c - lo)) W) ∧ ∀ W, SgAt W A G → SgAt W A2 (G.drop lo) := by
  have hsz : ∀ W, (sizeOf 103).run Tryz.prog W = .ok 2 W := fun W => by kernel_rfl
  have h3 : (0 : Int) ≤ (lo : Int) ∧ (lo : Int) ≤ (l : Int) := by omega
  have h4 : (0 : Int) ≤ (l : Int) ∧ (l : Int) ≤ (c : Int) := by omega
  refine ⟨if c = lo then A else A.map (·.add (lo * 2)), fun W => ?_, fun W h => ?_⟩
  · simp only [Instr.slice, Sem.run_bind, run_underlying Tryz.underlying29, Result.andThen, Instr.sliceBounds, Instr.sliceBound, asIntOf, Sem.run_pure, if_pos h3, if_pos h4, hsz, Int.toNat_natCast]
  · by_cases h0 : c = lo
    · rw [if_pos h0, List.drop_of_length_le (by omega)]
      intro j p hp; simp at hp
    · rw [if_neg h0]
      intro j p hp
      rw [List.getElem?_drop] at hp
      obtain ⟨ad, rfl, g1, g2⟩ := h (lo + j) p hp
      have e : (ad.add (lo * 2)).add (j * 2) = ad.add ((lo + j) * 2) := by rw [Addr.add_add, Nat.add_mul]
      exact ⟨_, rfl, by rw [e]; exact g1, by rw [e]; exact g2⟩
theorem slNext_quiet {w : World} {T F : Nat} {nm : ByteArray} {dead : Bool} {v : Value} {ms : List PM} (h : LB w T F nm v dead) (hr : RowM w v ms) (hl : ms.length ≤ 1000000) (h64 : nxtP (prts ms) < 18446744073709551616) (a : Nat) : Calls Tryz.prog 18 #[.pointer (some ⟨T, 0, none⟩)] (w.drewN a) fun e w' => e = .returned (.int .u64 ((nxtP (prts ms) : Nat) : Int)) ∧ ∃ m, w' = (w.drewN a).drewN m := by
  have hk : Kept (fun _ => False) w (w.drewN a) := (Kept.refl _ w).drewN a
  have h' := h.kept hk (by simp)
  have hr' := hr.kept hk (by simp)
  rcases List.eq_nil_or_concat ms with rfl | ⟨a', q, rfl⟩
  · obtain ⟨A, c, rfl⟩ := hr'.nil
    refine (slNext_none _ T F nm A c dead h').mono ?_
    rintro e w' ⟨rfl, rfl⟩
    exact ⟨rfl, 0, rfl⟩
  · rw [List.concat_eq_append] at *
    obtain ⟨G, c, rfl, -, hc, -, -, hcell⟩ := hr'.form (by simp)
    rw [List.length_append, List.length_singleton] at h' hc hl
    obtain ⟨x0, x1, -⟩ := hcell a'.length q (by simp)
    have e : nxtP (prts (a' ++ [q])) = q.first + q.rs.length := by rw [prts_snoc, nxtP_snoc]; simp [endP, PM.prt]
    rw [e] at h64 ⊢
    exact slNext_some _ T F nm G a'.length c q.first q.rs.length q.c q.A dead h' (by omega) hc x0 x1 h64
theorem trimN_end : ∀ (G : List Prt) (m : Nat), (G.drop (trimN G m)).length ≤ 1 ∨ sumSz (G.drop (trimN G m)) ≤ m
  | [], m => .inl (by simp)
  | [p], m => .inl (by simp [trimN])
  | p :: q :: r, m => by
    unfold trimN
    split
    · next h => exact .inr (by simpa using h)
    · have := trimN_end (q :: r) m
      rw [Nat.add_comm, List.drop_succ_cons]
      exact this
theorem trimN_step : ∀ (G : List Prt) (m i : Nat), trimN G m = i + 1 → ∃ p, G[i]? = some p ∧ m < sumSz (G.drop (i + 1)) + szP p
  | [], m, i, h => by simp [trimN] at h
  | [p], m, i, h => by simp [trimN] at h
  | p :: q :: r, m, i, h => by
    unfold trimN at h
    split at h
    · simp at h
    · next hm =>
      cases i with
      | zero => exact ⟨p, rfl, by rw [sumSz_cons] at hm; simpa using (by omega : m < sumSz (q :: r) + szP p)⟩
      | succ i =>
        obtain ⟨p', h1, h2⟩ := trimN_step (q :: r) m i (by omega)
        exact ⟨p', by simpa using h1, by simpa using h2⟩
theorem nx_of {ms : List PM} {m J k nG : Nat} (hk : nxtP (prts ms) = k) (hG : nG = (prts ms).length) (hJ : J = trimN (prts ms) m) : nxtP (prts (ms.drop J)) = k := by
  rw [prts_drop]
  by_cases e : prts ms = []
  · rw [e] at hk ⊢; simpa using hk
  · have := trimN_lt (prts ms) m e
    rw [nxtP_drop (by omega)]; exact hk
/-- What is held while records are appended. -/
def TrA (w W : World) (T F M : Nat) (lim : Int) (k : Nat) : Prop := ∃ ps c v ms sf, LW w W (fun _ => none) T F M ⟨#[97]⟩ ps c lim v ms sf k (1516 * k) ∧ nxtP (prts ms) = k ∧ LastNE (prts ms)
end Go.Proofs.YtibalgfejfjndaaGreatDoor
end

/-! Two logs of other names on the same files. -/
section
set_option linter.unusedVariables false
set_option linter.unusedSimpArgs false
namespace Go.Proofs.YtibalgfejfjndaaGreatDoor
open Go.RowKit

/-- What is one log's alone is none of the other's. -/
structure Two (Ta : Nat) (va : Value) (ma : List PM) (Tb : Nat) (vb : Value) (mb : List PM) : Prop where
  t : Ta ≠ Tb
  v : ∀ k, va.ownBlock = some k → vb.ownBlock ≠ some k
  r : ∀ p ∈ ma, ∀ q ∈ mb, ∀ k, p.rv.ownBlock = some k → q.rv.ownBlock ≠ some k
theorem Two.symm {Ta Tb : Nat} {va vb : Value} {ma mb : List PM} (h : Two Ta va ma Tb vb mb) : Two Tb vb mb Ta va ma :=
  ⟨fun e => h.t e.symm, fun k e e2 => h.v k e2 e, fun p hp q hq k e e2 => h.r q hq p hp k e2 e⟩
section
variable {w w' : World} {Ta Tb F M : Nat} {na nb : ByteArray} {ps ps' : List PF} {clock clock' : Nat} {lim lim' arm arm' : Int} {dn dn' da db da' : Bool} {va vb va' : Value} {ma mb ma' : List PM}
theorem Two.bt (h : Two Ta va ma Tb vb mb) (ha : LG w Ta F M na ps clock lim arm dn va ma da) (hb : LG w Tb F M nb ps clock lim arm dn vb mb db) : ¬ LFoot Ta F M ps va ma Tb := fun e => by
  rcases e with e | e | e | ⟨p, hp, e⟩
  · exact h.t e.symm
  · exact hb.nT e
  · exact hb.lb.noRow ha.row (by decide) e
  · exact hb.lb.noRow (ha.rr p hp) (by decide) e
theorem Two.bv (h : Two Ta va ma Tb vb mb) (ha : LG w Ta F M na ps clock lim arm dn va ma da) (hb : LG w Tb F M nb ps clock lim arm dn vb mb db) : ∀ k, vb.ownBlock = some k → ¬ LFoot Ta F M ps va ma k := fun k e e2 => by
  rcases e2 with e2 | e2 | e2 | ⟨p, hp, e2⟩
  · exact ha.lb.noRow hb.row (by decide) (e2 ▸ e)
  · exact hb.nv k e e2
  · exact h.v k e2 e
  · exact own_two (by decide) (ha.rr p hp) hb.row k e2 e
theorem Two.br (h : Two Ta va ma Tb vb mb) (ha : LG w Ta F M na ps clock lim arm dn va ma da) (hb : LG w Tb F M nb ps clock lim arm dn vb mb db) : ∀ q ∈ mb, ∀ k, q.rv.ownBlock = some k → ¬ LFoot Ta F M ps va ma k := fun q hq k e e2 => by
  rcases e2 with e2 | e2 | e2 | ⟨p, hp, e2⟩
  · exact ha.lb.noRow (hb.rr q hq) (by decide) (e2 ▸ e)
  · exact hb.nr q hq k e e2
  · exact own_two (by decide) ha.row (hb.rr q hq) k e2 e
  · exact h.r p hp q hq k e2 e
theorem Two.bq (h : Two Ta va ma Tb vb mb) (ha : LG w Ta F M na ps clock lim arm dn va ma da) (hb : LG w Tb F M nb ps clock lim arm dn vb mb db) : ∀ q ∈ mb, ∀ r ∈ q.rs, ∀ k, r.val.ownBlock = some k → ¬ LFoot Ta F M ps va ma k := fun q hq r hr k e e2 => by
  rcases e2 with e2 | e2 | e2 | ⟨p, hp, e2⟩
  · exact ha.lb.noRow (hb.own q hq r hr) (by decide) (e2 ▸ e)
  · exact hb.nq q hq r hr k e e2
  · exact own_two (by decide) ha.row (hb.own q hq r hr) k e2 e
  · exact own_two (by decide) (ha.rr p hp) (hb.own q hq r hr) k e2 e
/-- One log moves, the other one stays. -/
theorem Two.beside (h : Two Ta va ma Tb vb mb) (ha : LG w Ta F M na ps clock lim arm dn va ma da) (hb : LG w Tb F M nb ps clock lim arm dn vb mb db) (hm : MvL w Ta F M ps va ma ps' va' ma' w') (ha' : LG w' Ta F M na ps' clock' lim' arm' dn' va' ma' da') :
    LG w' Tb F M nb ps' clock' lim' arm' dn' vb mb db ∧ Two Ta va' ma' Tb vb mb := by
  have ntb := h.bt ha hb
  have nvb := h.bv ha hb
  have nrb := h.br ha hb
  have nqb := h.bq ha hb
  have up : ∀ k, k < w.heap.size → ¬ LFoot Ta F M ps va ma k → ¬ LFoot Ta F M ps' va' ma' k := fun k hk hn e => (hm.feet k e).elim hn fun e => by omega
  have lv := own_ltH hb.row
  refine ⟨⟨ha'.f, hb.lb.kept hm.kept ntb, hb.row.kept hm.kept nvb, fun q hq => own_kept (hb.rr q hq) hm.kept (nrb q hq), fun q hq r hr => own_kept (hb.own q hq r hr) hm.kept (nqb q hq r hr),
    fun e => up Tb hb.lb.lt ntb (.inr (.inl e)), fun k e e2 => up k (lv k e) (nvb k e) (.inr (.inl e2)), fun q hq k e e2 => up k (own_ltH (hb.rr q hq) k e) (nrb q hq k e) (.inr (.inl e2)), fun q hq r hr k e e2 => up k (own_ltH (hb.own q hq r hr) k e) (nqb q hq r hr k e) (.inr (.inl e2)), hb.dj⟩,
    ⟨h.t, fun k e e2 => up k (lv k e2) (nvb k e2) (.inr (.inr (.inl e))), fun p hp q hq k e e2 => up k (own_ltH (hb.rr q hq) k e2) (nrb q hq k e2) (.inr (.inr (.inr ⟨p, hp, e⟩)))⟩⟩
end
/-- Two logs on the same files, and nothing else. -/
structure TW (w0 w : World) (Ta Tb F M : Nat) (na nb : ByteArray) (ps : List PF) (clock : Nat) (lim : Int) (va : Value) (ma : List PM) (sa Na : Nat) (vb : Value) (mb : List PM) (sb Nb U : Nat) : Prop where
  a : LS w Ta F M na ps clock lim 0 false va ma false sa Na
  b : LS w Tb F M nb ps clock lim 0 false vb mb false sb Nb
  two : Two Ta va ma Tb vb mb
  fa : ∀ k, LFoot Ta F M ps va ma k → w0.heap.size ≤ k
  fb : ∀ k, LFoot Tb F M ps vb mb k → w0.heap.size ≤ k
  kw : Kept (fun _ => False) w0 w
  us : usedL ps ≤ U
  ot : ∀ s, (∀ u, s ≠ fileB na u) → (∀ u, s ≠ fileB nb u) → lk ps s = none
section
variable {w0 w w' : World} {Ta Tb F M : Nat} {na nb : ByteArray} {ps : List PF} {clock : Nat} {lim : Int} {va vb : Value} {ma mb : List PM} {sa sb Na Nb U V : Nat}
theorem TW.symm (h : TW w0 w Ta Tb F M na nb ps clock lim va ma sa Na vb mb sb Nb U) : TW w0 w Tb Ta F M nb na ps clock lim vb mb sb Nb va ma sa Na U := ⟨h.b, h.a, h.two.symm, h.fb, h.fa, h.kw, h.us, fun s h1 h2 => h.ot s h2 h1⟩
theorem TW.stay (h : TW w0 w Ta Tb F M na nb ps clock lim va ma sa Na vb mb sb Nb U) (hk : Kept (fun _ => False) w w') : TW w0 w' Ta Tb F M na nb ps clock lim va ma sa Na vb mb sb Nb U := ⟨h.a.stay hk, h.b.stay hk, h.two, h.fa, h.fb, h.kw.trans' hk, h.us, h.ot⟩
theorem TW.mono {Na' Nb' : Nat} (h : TW w0 w Ta Tb F M na nb ps clock lim va ma sa Na vb mb sb Nb U) (h1 : Na ≤ Na') (h2 : Nb ≤ Nb') (hu : U ≤ V) : TW w0 w Ta Tb F M na nb ps clock lim va ma sa Na' vb mb sb Nb' V := ⟨⟨h.a.lg, h.a.ld, h.a.sm.mono h1⟩, ⟨h.b.lg, h.b.ld, h.b.sm.mono h2⟩, h.two, h.fa, h.fb, h.kw, Nat.le_trans h.us hu, h.ot⟩
/-- Append into the first one. -/
def TWApp (w0 w : World) (Ta Tb F M : Nat) (na nb : ByteArray) (lim : Int) (ma : List PM) (Na : Nat) (vb : Value) (mb : List PM) (sb Nb U : Nat) (xs : List UInt8) (e : Ending) (w' : World) : Prop :=
  ∃ ps' c' va' ma' sa', e = .returned (.tuple #[.int .u64 ((nxtP (prts ma) : Nat) : Int), .int .i64 0]) ∧ TW w0 w' Ta Tb F M na nb ps' c' lim va' ma' sa' (Na + 1) vb mb sb Nb (U + (16 + xs.length)) ∧ prts ma' = logPut (prts ma) xs
theorem TW.append {A : Option Addr} {n c : Nat} {xs : List UInt8} (h : TW w0 w Ta Tb F M na nb ps clock lim va ma sa Na vb mb sb Nb U) (hab : na ≠ nb) (hN : Na ≤ 10000) (hnm : na.size ≤ 82) (hf : fullB na = true) (hU : U + (16 + xs.length) ≤ 4194304) (hlim : ((U + (16 + xs.length) : Nat) : Int) ≤ lim)
    (hx : ∀ W, Kept (fun k => w0.heap.size ≤ k) w0 W → Bs W A xs) (hn : n = xs.length) (hA : A = none → c = 0) (hs : xs.length ≤ 2000) : Calls Tryz.prog 17 #[.pointer (some ⟨Ta, 0, none⟩), .slice A n c] w (TWApp w0 w Ta Tb F M na nb lim ma Na vb mb sb Nb U xs) := by
  have hu := h.us
  refine (slAppend_0 h.a hN hnm hf (by omega) (by omega) (fun W hW => hx W ((h.kw.mono fun _ _ e => e.elim).trans hW fun i hi e => h.fa i e)) hn hA hs).mono ?_
  rintro e w' ⟨ps', c', v', ms', sf', rfl, hl, hp, hm, -, ho, hu'⟩
  obtain ⟨hb, ht⟩ := h.two.beside h.a.lg h.b.lg hm hl.lg
  have hfile : ∀ v s, s = fileB nb v → lk ps' s = lk ps s := fun v s e => ho s fun u e2 => hab (fileB_nm (e2.symm.trans e))
  refine ⟨ps', c', v', ms', sf', rfl, ⟨hl, ⟨hb, fun v hv => by rw [hfile v _ rfl]; exact h.b.ld v hv, h.b.sm⟩, ht, fun k e => (hm.feet k e).elim (h.fa k) fun e => Nat.le_trans h.kw.size e, fun k e => ?_, h.kw.trans hm.kept fun i hi e => by have := h.fa i e; omega, by omega, fun s h1 h2 => (ho s h1).trans (h.ot s h1 h2)⟩, hp⟩
  rcases e with e | e | e | e
  · exact h.fb k (.inl e)
  · exact (hm.feet k (.inr (.inl e))).elim (h.fa k) fun e => Nat.le_trans h.kw.size e
  · exact h.fb k (.inr (.inr (.inl e)))
  · exact h.fb k (.inr (.inr (.inr e)))
/-- How many files there are. -/
theorem TW.files (h : TW w0 w Ta Tb F M na nb ps clock lim va ma sa Na vb mb sb Nb U) (hN : Na ≤ 10000) (hN2 : Nb ≤ 10000) : ps.length ≤ Na + Nb + 2 ∧ ∀ p ∈ ps, p.name.size ≤ na.size + nb.size + 18 := by
  have key : ∀ p ∈ ps, p.name ∈ ((prts ma).map Prod.fst).map (fileB na) ++ ((prts mb).map Prod.fst).map (fileB nb) := fun p hp => by
    have h1 : lk ps p.name ≠ none := lk_mem hp
    have h2 : (∃ u, p.name = fileB na u) ∨ ∃ u, p.name = fileB nb u := Classical.byContradiction fun hno => h1 (h.ot p.name (fun u e => hno (.inl ⟨u, e⟩)) fun u e => hno (.inr ⟨u, e⟩))
    rw [List.mem_append]
    rcases h2 with ⟨u, hu⟩ | ⟨u, hu⟩
    all_goals
      rw [fileB_mod] at hu
      have hlt : u % 18446744073709551616 < 18446744073709551616 := Nat.mod_lt _ (by decide)
      rw [hu] at h1 ⊢
    · exact .inl (List.mem_map_of_mem ((h.a.ld.mem hlt).1 h1))
    · exact .inr (List.mem_map_of_mem ((h.b.ld.mem hlt).1 h1))
  refine ⟨?_, fun p hp => ?_⟩
  · have h1 := len_sub (S := ((prts ma).map Prod.fst).map (fileB na) ++ ((prts mb).map Prod.fst).map (fileB nb)) h.a.lg.f.names (fun x hx => by
      obtain ⟨p, hp, rfl⟩ := List.mem_map.1 hx
      exact key p hp)
    simp only [List.length_append, List.length_map] at h1
    have h2 := h.a.sm.few
    have h3 := h.b.sm.few
    omega
  · rcases List.mem_append.1 (key p hp) with h1 | h1
    all_goals
      obtain ⟨u, -, hu⟩ := List.mem_map.1 h1
      rw [← hu, size_fileB]
      omega
/-- The first one opened again. -/
def TWOpen (w0 w : World) (F M : Nat) (na : ByteArray) (lim : Int) (G : List Prt) (e : Ending) (w' : World) : Prop :=
  ∃ T2 v' ms' ps' c', e = .returned (.tuple #[.pointer (some ⟨T2, 0, none⟩), .int .i64 0]) ∧ LG w' T2 F M na ps' c' lim 0 false v' ms' false ∧ prts ms' = G ∧ Kept (fun _ => False) w0 w'
theorem TW.reopen (h : TW w0 w Ta Tb F M na nb ps clock lim va ma sa Na vb mb sb Nb U) (hN : Na ≤ 400) (hN2 : Nb ≤ 400) (hnm : na.size ≤ 82) (hnm2 : nb.size ≤ 82) (hf : fullB na = true) (hne : LastNE (prts ma)) : Calls Tryz.prog 5 #[.pointer (some ⟨F, 0, none⟩), .string na] w (TWOpen w0 w F M na lim (prts ma)) := by
  obtain ⟨hfi, hfn⟩ := h.files (by omega) (by omega)
  have hsm := h.a.sm
  refine (slOpen_any w F M na ps clock lim 0 (prts ma) [] sa h.a.lg.f ⟨hsm.cont, h.a.ld, fun a q e => ⟨PartF.nil _, h.a.sfl (by omega) a q e⟩, hsm.short, fun p hp => by have := (hsm.one hp).2.2; omega, by have := hsm.few; omega, by have := hsm.nx; omega, hnm, hf, by omega, fun p hp => by have := hfn p hp; omega⟩).mono ?_
  rintro e w' (⟨T2, v', ms', ps', c', arm', rfl, hT, hl, hp, hft, hk, -, -, ha, -⟩ | ⟨ps', c', rfl, ha, -⟩)
  · have ha0 : arm' = 0 := ha rfl
    subst ha0
    refine ⟨T2, v', ms', ps', c', rfl, hl, by rw [hp, hne.norm], h.kw.trans hk fun i hi e => ?_⟩
    have := h.fa i (.inr (.inl e))
    omega
  · cases ha
/-- A second log, of another name, opened where the first one has nothing yet. -/
def TWFirst (w0 : World) (Ta F M : Nat) (na nb : ByteArray) (lim : Int) (e : Ending) (w' : World) : Prop :=
  ∃ Tb ps' c' va sa vb, e = .returned (.tuple #[.pointer (some ⟨Tb, 0, none⟩), .int .i64 0]) ∧ TW w0 w' Ta Tb F M na nb ps' c' lim va [] sa 0 vb [] 0 0 0
theorem TW.first (h : LW w0 w (fun _ => none) Ta F M na ps clock lim va [] sa 0 0) (hab : na ≠ nb) (hnb : nb.size ≤ 82) (hf : fullB nb = true) (hna : na.size ≤ 82) : Calls Tryz.prog 5 #[.pointer (some ⟨F, 0, none⟩), .string nb] w (TWFirst w0 Ta F M na nb lim) := by
  obtain ⟨hfi, hfn⟩ := h.files (by omega)
  refine (slOpen_0 h.ls.lg.f (openL_none (fun u _ => h.ot _ fun u2 e => hab (fileB_nm e).symm) hnb hf (by omega) (fun p hp => by have := hfn p hp; omega))).mono ?_
  rintro e w' ⟨Tb, vb, ps', c', rfl, hT, hl, hft, hk, ho, hu⟩
  have hg : Went w F M ps ps' c' lim 0 false w' := ⟨hl.lg.f, hk, fun k e => hft k (.inr (.inl e))⟩
  have ha := h.ls.lg.went hg
  have hTa := h.ls.lg.lb.lt
  have hus := h.us
  refine ⟨Tb, ps', c', va, sa, vb, rfl, ⟨⟨ha, fun v hv => by rw [ho _ fun u e => hab (fileB_nm e)]; exact h.ls.ld v hv, h.ls.sm⟩, hl, ⟨fun e => by omega, fun k e e2 => ?_, fun p hp => by cases hp⟩, fun k e => ?_, fun k e => (hft k e).elim (fun e => h.fo k (.inr (.inl e))) fun e => Nat.le_trans h.kw.size e, h.kw.trans hk fun i hi e => by have := h.fo i (.inr (.inl e)); omega, by omega, fun s h1 h2 => (ho s h2).trans (h.ot s h1)⟩⟩
  · rcases hft k (.inr (.inr (.inl e2))) with e3 | e3
    · exact h.ls.lg.nv k e e3
    · have := own_ltH h.ls.lg.row k e; omega
  · rcases e with e | e | e | ⟨p, hp, e⟩
    · exact h.fo k (.inl e)
    · exact (hft k (.inr (.inl e))).elim (fun e => h.fo k (.inr (.inl e))) fun e => Nat.le_trans h.kw.size e
    · exact h.fo k (.inr (.inr (.inl e)))
    · cases hp
end
end Go.Proofs.YtibalgfejfjndaaGreatDoor
end

/-! A slice of a row of the call's own that begins somewhere in it. -/
section
set_option linter.unusedVariables false
set_option linter.unusedSimpArgs false
namespace Go.Proofs.YtibalgfejfjndaaGreatDoor
open Go.RowKit

def RowS (W : World) (base : Nat) (e : TypeId) (v : Value) (xs : List Value) (N : Nat) : Prop :=
  (v = .slice none 0 0 ∧ xs = []) ∨ ∃ g o cap pre, v = .slice (some ⟨g, o, none⟩) xs.length cap ∧ pre.length = o ∧ o + xs.length ≤ N ∧ W.ownsRow base e 1 (.slice (some ⟨g, 0, none⟩) (o + xs.length) (o + cap)) (o + xs.length) (pre ++ xs)
section
variable {W W' : World} {base n N : Nat} {e : TypeId} {v : Value} {xs : List Value}
theorem RowS.nil (W : World) (base : Nat) (e : TypeId) (N : Nat) : RowS W base e (.slice none 0 0) [] N := .inl ⟨rfl, rfl⟩
theorem RowS.of (h : W.ownsRow base e 1 v n xs) (hN : n ≤ N) : RowS W base e v xs N := by
  have hl : xs.length = n := by have := h.1; omega
  rcases h.2 with ⟨hv, h0⟩ | ⟨g, cap, cur, hv, h1⟩
  · exact .inl ⟨hv, List.eq_nil_of_length_eq_zero (by omega)⟩
  · refine .inr ⟨g, 0, cap, [], by rw [hv, hl], rfl, by omega, ?_⟩
    rw [Nat.zero_add, Nat.zero_add, List.nil_append, hl, ← hv]
    exact h
theorem RowS.own (h : RowS W base e v xs N) : ∃ v0 n0 ys, W.ownsRow base e 1 v0 n0 ys ∧ v0.ownBlock = v.ownBlock := by
  rcases h with ⟨rfl, rfl⟩ | ⟨g, o, cap, pre, rfl, hp, hN, h⟩
  · exact ⟨_, _, _, World.ownsRow_nil W base e 1, rfl⟩
  · exact ⟨_, _, _, h, rfl⟩
theorem RowS.kept {S : Nat → Prop} (h : RowS W base e v xs N) (hk : Kept S W W') (hS : ∀ k, v.ownBlock = some k → ¬ S k) : RowS W' base e v xs N := by
  rcases h with h | ⟨g, o, cap, pre, rfl, hp, hN, h⟩
  · exact .inl h
  · exact .inr ⟨g, o, cap, pre, rfl, hp, hN, own_kept h hk hS⟩
theorem RowS.lt (h : RowS W base e v xs N) : ∀ k, v.ownBlock = some k → k < W.heap.size := by
  obtain ⟨v0, n0, ys, h1, h2⟩ := h.own
  intro k hk
  exact own_ltH h1 k (by rw [h2]; exact hk)
theorem RowS.ge (h : RowS W base e v xs N) : ∀ k, v.ownBlock = some k → base ≤ k := by
  obtain ⟨v0, n0, ys, h1, h2⟩ := h.own
  intro k hk
  exact own_ge h1 k (by rw [h2]; exact hk)
theorem RowS.low {b : Nat} (h : RowS W base e v xs N) (hb : b ≤ base) : RowS W b e v xs N := by
  rcases h with h | ⟨g, o, cap, pre, rfl, hp, hN, h⟩
  · exact .inl h
  · exact .inr ⟨g, o, cap, pre, rfl, hp, hN, own_low h hb⟩
theorem add_none (g o j : Nat) : (⟨g, o, none⟩ : Addr).add j = ⟨g, o + j, none⟩ := by
  unfold Addr.add; split <;> simp_all
/-- How it is read. -/
theorem RowS.read (h : RowS W base e v xs N) : ∃ A c, v = .slice A xs.length c ∧ (A = none → c = 0) ∧ xs.length ≤ c ∧ ∀ (j : Nat) u, xs[j]? = some u → ∃ ad, A = some ad ∧ W.cell? (ad.add j) = some u := by
  rcases h with ⟨rfl, rfl⟩ | ⟨g, o, cap, pre, rfl, hp, hN, h⟩
  · exact ⟨none, 0, rfl, fun _ => rfl, Nat.le_refl _, fun j u hu => by simp at hu⟩
  · have hc := own_capn h
    refine ⟨_, _, rfl, fun e => (by cases e), by omega, fun j u hu => ⟨_, rfl, ?_⟩⟩
    have := h.cells rfl (o + j) u (by rw [List.getElem?_append_right (by omega), ← hp]; simpa using hu)
    rw [add_none] at this ⊢
    rwa [Nat.zero_add] at this
theorem own_pre {g N cap k : Nat} {ys : List Value} (h : W.ownsRow base e 1 (.slice (some ⟨g, 0, none⟩) N cap) N ys) (hk : k ≤ N) : W.ownsRow base e 1 (.slice (some ⟨g, 0, none⟩) k cap) k (ys.take k) := by
  have hl := h.1
  rcases h.2 with ⟨hv, _⟩ | ⟨g', cap', cur, hv, hb, hh, h1, h2, h3, h4⟩
  · cases hv
  · simp only [Value.slice.injEq, Option.some.injEq, Addr.mk.injEq, true_and, and_true] at hv
    obtain ⟨rfl, rfl⟩ := hv
    refine ⟨by rw [List.length_take]; omega, .inr ⟨g, cap, cur, rfl, hb, hh, by omega, h2, h3, ?_⟩⟩
    rw [← h4, List.take_take]
    congr 1
    omega
/-- Its first ones are no more in it. -/
theorem RowS.drop (h : RowS W base e v xs N) (k : Nat) (hk : k < xs.length) : ∃ g o cap, v = .slice (some ⟨g, o, none⟩) xs.length cap ∧ xs.length ≤ cap ∧ RowS W base e (.slice (some ⟨g, o + k, none⟩) (xs.length - k) (cap - k)) (xs.drop k) N := by
  rcases h with ⟨rfl, rfl⟩ | ⟨g, o, cap, pre, rfl, hp, hN, h⟩
  · simp at hk
  · have hc := own_capn h
    refine ⟨g, o, cap, rfl, by omega, .inr ⟨g, o + k, cap - k, pre ++ xs.take k, by rw [List.length_drop], by rw [List.length_append, List.length_take, hp]; omega, by rw [List.length_drop]; omega, ?_⟩⟩
    rw [List.append_assoc, List.take_append_drop, List.length_drop, show o + k + (xs.length - k) = o + xs.length by omega, show o + k + (cap - k) = o + cap by omega]
    exact h
/-- Its last ones are no more in it. -/
theorem RowS.take (h : RowS W base e v xs N) (k : Nat) (hk : k ≤ xs.length) : ∃ A c, v = .slice A xs.length c ∧ xs.length ≤ c ∧ RowS W base e (.slice A k c) (xs.take k) N := by
  rcases h with ⟨rfl, rfl⟩ | ⟨g, o, cap, pre, rfl, hp, hN, h⟩
  · have : k = 0 := by simpa using hk
    subst this
    exact ⟨none, 0, rfl, Nat.le_refl _, RowS.nil _ _ _ _⟩
  · have hc := own_capn h
    have h2 := own_pre h (k := o + k) (by omega)
    refine ⟨_, cap, rfl, by omega, .inr ⟨g, o, cap, pre, by rw [List.length_take, Nat.min_eq_left hk], hp, by rw [List.length_take]; omega, ?_⟩⟩
    rw [List.length_take, Nat.min_eq_left hk]
    rwa [List.take_append, hp, Nat.add_sub_cancel_left, List.take_of_length_le (by omega)] at h2
end
/-- Where an append leaves it. -/
def GrewS (w w' : World) (v v' : Value) : Prop := (v'.ownBlock = v.ownBlock ∧ w.grownBy w' v.ownBlock) ∨ ((∀ k, v'.ownBlock = some k → w.heap.size ≤ k) ∧ w.grownBy w' none)
theorem GrewS.row {w w' : World} {v v' : Value} (h : GrewS w w' v v') : w.grownBy w' v.ownBlock := by
  rcases h with h | h
  · exact h.2
  · exact ⟨h.2.os, h.2.tape, h.2.output, h.2.size, fun k hk _ => h.2.block k hk (by simp)⟩
theorem GrewS.kept {w w' : World} {v v' : Value} (h : GrewS w w' v v') : Kept (fun k => v.ownBlock = some k) w w' := (Kept.refl _ w).grown h.row fun k e _ => e
theorem GrewS.feet {w w' : World} {v v' : Value} (h : GrewS w w' v v') (k : Nat) (e : v'.ownBlock = some k) : v.ownBlock = some k ∨ w.heap.size ≤ k := by
  rcases h with h | h
  · exact .inl (by rw [← h.1]; exact e)
  · exact .inr (h.1 k e)
section
variable {w : World} {o : Oper} {a : Act} {S E : TypeId} {bytes : Nat}
theorem run_append_s (H : ElemT S E 1 bytes) (ty : TypeId) (base : Nat) (v : Value) (xs : List Value) (N : Nat) (hown : RowS w base E v xs N)
    (ad : Addr) (m c : Nat) (ys : List Value) (hC : Cs w (some ad) ys) (hm : ys.length = m) (hone : ∀ u ∈ ys, u.oneCell' = true) (h63 : N + m ≤ 1000000) (hbase : base ≤ w.heap.size) :
    ∃ v' w', (Builtin.append_ #[S, S] ty #[v, .slice (some ad) m c]).run Tryz.prog w = .ok v' w' ∧ RowS w' base E v' (xs ++ ys) (N + m) ∧ GrewS w w' v v' := by
  rcases hown with ⟨rfl, rfl⟩ | ⟨g, o, cap, pre, rfl, hp, hN, h⟩
  · obtain ⟨v', w', hr, h1, h2⟩ := run_append_e H ty base (.slice none 0 0) 0 [] (World.ownsRow_nil w base E 1) (some ad) m c ys hC (by omega) hone (fun e => by cases e) (by omega) hbase
    refine ⟨v', w', hr, by simpa using RowS.of h1 (by omega), ?_⟩
    rcases h2 with h2 | h2
    · exact .inl h2
    · exact .inr ⟨fun k e => by rw [h2.1] at e; simp only [Option.some.injEq] at e; omega, h2.2⟩
  · obtain ⟨i0, z, hi, hz0, hz1, hz2, hz3⟩ := H.i
    have hcn := own_capn h
    by_cases hroom : xs.length + m ≤ cap
    · rcases h.2 with ⟨hv, _⟩ | ⟨g', cap', cur, hv, hb, hh, h1, h2, h3, h4⟩
      · cases hv
      · simp only [Value.slice.injEq, Option.some.injEq, Addr.mk.injEq, true_and, and_true] at hv
        obtain ⟨rfl, rfl⟩ := hv
        have cin : ∀ j, j < ys.length → (w.cell? ⟨g, o + xs.length * i0.size + j, none⟩).isSome = true := fun j hj => by
          have : o + xs.length * i0.size + j < cur.size := by rw [hz1, h3]; omega
          simp [World.cell?, hh, this]
        have fin : ∀ j, j < ys.length → w.frozen? ⟨g, o + xs.length * i0.size + j, none⟩ = false := fun j hj => by simp [World.frozen?, hh]
        have r1 := run_append_room_cells (P := Tryz.prog) w S ty E i0 H.u hi g o xs.length cap ad m c ys (by rw [hz1]; omega) (hC.2 ad rfl) hone hroom cin fin
        have eo : 0 + (o + xs.length) * i0.size = o + xs.length * i0.size := by rw [hz1]; omega
        have r2 := run_append_room_cells (P := Tryz.prog) w S ty E i0 H.u hi g 0 (o + xs.length) (o + cap) ad m c ys (by rw [hz1]; omega) (hC.2 ad rfl) hone (by omega) (by rw [eo]; exact cin) (by rw [eo]; exact fin)
        have hbig : o + xs.length + m ≤ maxLen := by omega
        obtain ⟨v', w', hr, hw, hgr, -, -⟩ := run_append_own_at (P := Tryz.prog) w base S ty E i0 z 1 bytes H.u hi hz0 hz1 hz2 hz3 (by decide) _ (o + xs.length) _ h ad m c ys (by omega) (hC.2 ad rfl) hone hbig (Nat.le_trans (Nat.mul_le_mul (show o + xs.length + m ≤ 1000000 by omega) H.b) (by decide)) hbase
        rw [r2] at hr
        injection hr with e1 e2
        rw [eo] at e2
        subst e1
        subst e2
        refine ⟨_, _, r1, .inr ⟨g, o, cap, pre, by rw [List.length_append, hm], hp, by rw [List.length_append, hm]; omega, ?_⟩, .inl ⟨rfl, hgr⟩⟩
        rw [List.length_append, hm, ← List.append_assoc]
        rwa [show o + (xs.length + m) = o + xs.length + m by omega]
    · have hby : (xs.length + m) * bytes ≤ 140737488355328 := Nat.le_trans (Nat.mul_le_mul (show xs.length + m ≤ 1000000 by omega) H.b) (by decide)
      have hcell : ∀ (j : Nat) u, xs[j]? = some u → w.cell? ((⟨g, o, none⟩ : Addr).add j) = some u := fun j u hu => by
        have := h.cells rfl (o + j) u (by rw [List.getElem?_append_right (by omega), ← hp]; simpa using hu)
        rw [add_none] at this ⊢
        rwa [Nat.zero_add] at this
      obtain ⟨v', w', hr, hw, hgr⟩ := run_append_arg_grows (P := Tryz.prog) w S ty E i0 z 1 bytes H.u hi hz0 hz1 hz2 hz3 (by decide) ⟨g, o, none⟩ xs.length cap xs (by omega) hcell ad m c ys (by omega) (hC.2 ad rfl) (by omega) (by unfold maxLen; omega) hby
      exact ⟨v', w', hr, (RowS.of hw (by omega)).low hbase, .inr ⟨own_ge hw, hgr⟩⟩
theorem wp_append_s (H : ElemT S E 1 bytes) {K : Act → World → Prop} {Q : Exit → Act → World → Prop} (s x : Operand)
    (ho : o.op = .call { callee := .builtin .append, args := #[s, x], argTypes := #[S, S] })
    (base : Nat) (v : Value) (xs : List Value) (N : Nat) (hs : a.eval s = v) (hown : RowS w base E v xs N)
    (ad : Addr) (m c : Nat) (ys : List Value) (hx : a.eval x = .slice (some ad) m c) (hC : Cs w (some ad) ys) (hm : ys.length = m) (hone : ∀ u ∈ ys, u.oneCell' = true)
    (h63 : N + m ≤ 1000000) (hbase : base ≤ w.heap.size)
    (h : ∀ v' w', RowS w' base E v' (xs ++ ys) (N + m) → GrewS w w' v v' → K (a.put o.dst v') w') : o.wp Tryz.prog a w K Q := by
  obtain ⟨v', w', hr, h2, h3⟩ := run_append_s H o.type base v xs N hown ad m c ys hC hm hone h63 hbase
  unfold Oper.wp execOp
  simp only [ho, resolve, invoke, builtin, Sem.run_bind, Sem.run_pure, Result.andThen_ok, List.map_toArray, List.map_cons, List.map_nil, hs, hx, hr]
  exact h v' w' h2 h3
theorem wpList_append_s (H : ElemT S E 1 bytes) {ops : Array Oper} {rest : List Oper} {Q : Exit → Act → World → Prop} (hgd : o.guard = none) (s x : Operand)
    (ho : o.op = .call { callee := .builtin .append, args := #[s, x], argTypes := #[S, S] })
    (base : Nat) (v : Value) (xs : List Value) (N : Nat) (hs : a.eval s = v) (hown : RowS w base E v xs N)
    (ad : Addr) (m c : Nat) (ys : List Value) (hx : a.eval x = .slice (some ad) m c) (hC : Cs w (some ad) ys) (hm : ys.length = m) (hone : ∀ u ∈ ys, u.oneCell' = true)
    (h63 : N + m ≤ 1000000) (hbase : base ≤ w.heap.size)
    (h : ∀ v' w', RowS w' base E v' (xs ++ ys) (N + m) → GrewS w w' v v' → wpList Tryz.prog ops Q rest (a.put o.dst v') w') : wpList Tryz.prog ops Q (o :: rest) a w :=
  wpList_plain hgd fun K hK => wp_append_s H s x ho base v xs N hs hown ad m c ys hx hC hm hone h63 hbase fun v' w' h2 h3 => hK _ _ (h v' w' h2 h3)
end
theorem own_fz {W : World} {base e size n g : Nat} {v : Value} {xs : List Value} (h : W.ownsRow base e size v n xs) (hg : v.ownBlock = some g) (j : Nat) : W.frozen? ⟨g, j, none⟩ = false := by
  rcases h.2 with ⟨hv, _⟩ | ⟨g', cap, cur, hv, hb, hh, _⟩
  · rw [hv] at hg; cases hg
  · rw [hv] at hg
    have e : g' = g := by simpa [Value.ownBlock] using hg
    subst e
    simp [World.frozen?, hh]
theorem RowS.mono {W : World} {base e N M : Nat} {v : Value} {xs : List Value} (h : RowS W base e v xs N) (hM : N ≤ M) : RowS W base e v xs M := by
  rcases h with h | ⟨g, o, cap, pre, h1, h2, h3, h4⟩
  · exact .inl h
  · exact .inr ⟨g, o, cap, pre, h1, h2, Nat.le_trans h3 hM, h4⟩
end Go.Proofs.YtibalgfejfjndaaGreatDoor
end

/-! For the rows: slices of integers, of bytes, of slices of bytes that came in. -/
section
set_option linter.unusedVariables false
set_option linter.unusedSimpArgs false
namespace Go.Proofs.YtibalgfejfjndaaGreatDoor
open Go.ChangeShapes Go.WideShapes Go.ChangeAt Go.RowKit Go.Deep

theorem rcells_u8 : Tryz.prog.cellsOf 5 = 1 := by kernel_rfl
theorem rcells_int : Tryz.prog.cellsOf 3 = 1 := by kernel_rfl
theorem rcells_bytes : Tryz.prog.cellsOf 30 = 1 := by kernel_rfl
theorem rbytesOf_bytes : Tryz.prog.bytesOf 30 = 24 := by kernel_rfl
theorem rbytesOf_u8 : Tryz.prog.bytesOf 5 = 1 := by kernel_rfl
theorem row_ofI {H : Type} {enc : TypeId × Value → H} {W : World} {t e : TypeId} {k : IntKind} {fuel : Nat} {c : Value} {x : DataW H × List MemPlace} (ht : Tryz.prog.underlying t = some (.slice e)) (he : Tryz.prog.underlying e = some (.int k)) (hc : Tryz.prog.cellsOf e = 1)
    (h : DataW.trod enc Tryz.prog W 0 (fun _ => true) true fuel t [c] = some x) : ∃ A l cp zs, c = .slice A l cp ∧ IsRow k W A l cp zs := by
  rcases open_ints ht he hc h with ⟨hcs, _⟩ | ⟨x, l, c', zs, hcs, _, hl, hm, hz, _, hcell, hwz⟩
  · exact ⟨none, 0, 0, [], by simpa using hcs, .inl ⟨rfl, rfl, rfl, rfl⟩⟩
  · exact ⟨some x, l, c', zs, by simpa using hcs, .inr ⟨x, rfl, hl, hm, by simpa using hz, hcell, hwz⟩⟩
theorem rowI_bytes {w : World} {a : Option Addr} {len cap : Nat} {zs : List Int} (h : IsRow .u8 w a len cap zs) : ∃ xs : List UInt8, len = xs.length ∧ Bs w a xs ∧ (a = none → cap = 0) ∧ ∀ ad, a = some ad → xs = [] ∨ ad.block < w.heap.size := by
  rcases h with ⟨rfl, rfl, rfl, rfl⟩ | ⟨x, rfl, hl, hm, hz, hc, hw⟩
  · exact ⟨[], rfl, Bs.nil _ _, fun _ => rfl, fun ad e => (by cases e)⟩
  · refine ⟨(zs.take len).map fun z => UInt8.ofNat z.toNat, by simp; omega, ⟨fun e => (by cases e), fun ad e j u hu => ?_⟩, fun e => (by cases e), fun ad e => ?_⟩
    · cases e
      have hj : j < len := by have := (List.getElem?_eq_some_iff.1 hu).1; simp at this; omega
      have hjz : j < zs.length := by omega
      rw [hc j hjz]
      have hg : zs.getD j 0 = zs[j] := by simp [List.getD, hjz]
      have hz' := hw zs[j] (List.getElem_mem hjz)
      have hz2 : 0 ≤ zs[j] ∧ zs[j] < 256 := by
        simp [Lit.wf, IntKind.min, IntKind.max, IntKind.signed, IntKind.bits] at hz'
        omega
      have hu2 : u = .int .u8 ((UInt8.ofNat zs[j].toNat).toNat : Int) := by
        simp [List.getElem?_take, hj, hjz, bv] at hu
        simp [← hu]
      rw [hg, hu2]
      simp
      omega
    · cases e
      rcases Nat.eq_zero_or_pos len with h0 | h0
      · exact .inl (by subst h0; simp)
      · exact .inr (by have := World.block_lt_of_cell? w _ (hc 0 (by omega)); rwa [add_block] at this)
theorem rlist_of {α : Type} {P : Nat → α → Prop} : ∀ n, (∀ j, j < n → ∃ a, P j a) → ∃ l : List α, l.length = n ∧ ∀ (j : Nat) a, l[j]? = some a → P j a
  | 0, _ => ⟨[], rfl, fun j a h => by simp at h⟩
  | n + 1, h => by
    obtain ⟨l, h1, h2⟩ := rlist_of n fun j hj => h j (by omega)
    obtain ⟨a, ha⟩ := h n (Nat.lt_succ_self n)
    refine ⟨l ++ [a], by simp [h1], fun j b hb => ?_⟩
    rcases Nat.lt_or_ge j l.length with hj | hj
    · rw [List.getElem?_append_left hj] at hb
      exact h2 j b hb
    · rw [List.getElem?_append_right hj] at hb
      have : j - l.length = 0 := by
        have := (List.getElem?_eq_some_iff.1 hb).1
        simp at this; omega
      rw [this] at hb
      simp at hb
      obtain rfl : j = n := by omega
      rwa [← hb]
/-- Slices of bytes that can be read, and where they lie. -/
def InBs (W : World) (A : Option Addr) (ps : List BV) : Prop := ∀ (j : Nat) p, ps[j]? = some p → ∃ ad, A = some ad ∧ W.cell? (ad.add j) = some p.val ∧ Bs W p.A p.b ∧ (p.A = none → p.c = 0)
theorem InBs.kept {W W' : World} {A : Option Addr} {ps : List BV} (h : InBs W A ps) (hk : Kept (fun _ => False) W W') : InBs W' A ps := fun j p hp => by
  obtain ⟨ad, h1, h2, h3, h4⟩ := h j p hp
  exact ⟨ad, h1, hk.cell h2 (by simp), h3.kept hk (by simp), h4⟩
theorem bytess_of {H : Type} {enc : TypeId × Value → H} {W : World} {fuel : Nat} {A : Option Addr} {l c : Nat} {x : DataW H × List MemPlace}
    (h : DataW.trod enc Tryz.prog W 0 (fun _ => true) true fuel 28 [.slice A l c] = some x) (hx : ∀ n ∈ x.1.weights Tryz.prog 28, n ≤ reachBytes) :
    ∃ ps : List BV, l = ps.length ∧ l ≤ reachBytes ∧ InBs W A ps := by
  rcases open_slice Tryz.underlying28 h with ⟨hcs, _⟩ | ⟨a, len, cap, m, n, D, Pl, hcs, _, hl, hm, hmm, hxx, hel⟩
  · simp at hcs
    obtain ⟨rfl, rfl, rfl⟩ := hcs
    exact ⟨[], rfl, Nat.zero_le _, fun j p hp => by simp at hp⟩
  · simp at hcs
    obtain ⟨rfl, rfl, rfl⟩ := hcs
    subst hxx
    simp only [DataW.weights, Tryz.underlying28] at hx
    have hb := hx _ List.mem_cons_self
    simp only [List.length_map, List.length_range, rbytesOf_bytes] at hb
    simp at hmm
    obtain ⟨ps, hl1, hl2⟩ := rlist_of (P := fun j (p : BV) => ∃ ad, some a = some ad ∧ W.cell? (ad.add j) = some p.val ∧ Bs W p.A p.b ∧ (p.A = none → p.c = 0)) l fun j hj => by
      obtain ⟨cs', h1, h2⟩ := hel j (by omega)
      rw [rcells_bytes] at h1
      obtain ⟨_, hlen, hcell⟩ := World.cells?_some h1
      obtain ⟨c0, rfl⟩ : ∃ c0, cs' = [c0] := by
        match cs', hlen with
        | [c0], _ => exact ⟨c0, rfl⟩
      obtain ⟨Ab, lb, cb, zb, e1, rb⟩ := row_ofI Tryz.underlying30 Tryz.underlying5 rcells_u8 h2
      subst e1
      obtain ⟨xs, hxl, hB, hA, _⟩ := rowI_bytes rb
      subst hxl
      have hc0 := hcell 0 (by decide)
      exact ⟨⟨Ab, cb, xs⟩, a, rfl, by simpa [Addr.add, BV.val, Addr.add_add] using hc0, hB, hA⟩
    exact ⟨ps, hl1.symm, by omega, hl2⟩
end Go.Proofs.YtibalgfejfjndaaGreatDoor
end

/-! SeglogPlays' world: how it lies; next; trims. -/
section
set_option linter.unusedVariables false
set_option linter.unusedSimpArgs false
namespace Go.Proofs.YtibalgfejfjndaaGreatDoor
open Go.RowKit

/-- The world's fields. -/
structure Wd where
  F : Nat
  T : Nat
  first : Nat
  rv : Value
  safe : Nat
  sv : Value
  down : Bool
  under : Nat
  bb : Value
  room : Bool
def Wd.cells (d : Wd) : Array Value := #[.pointer (some ⟨d.F, 0, none⟩), .pointer (some ⟨d.T, 0, none⟩), .int .u64 (d.first : Nat), d.rv, .int .i64 (d.safe : Nat), d.sv, .bool d.down, .int .i64 (d.under : Nat), d.bb, .bool d.room]
def WB (W : World) (B : Nat) (d : Wd) : Prop := W.heap[B]? = some (.cells d.cells 32 (0, 0))
section
variable {W W' : World} {B : Nat} {d : Wd}
theorem WB.c0 (h : WB W B d) : W.cell? ⟨B, 0, none⟩ = some (.pointer (some ⟨d.F, 0, none⟩)) := by simp [World.cell?, show W.heap[B]? = _ from h, Wd.cells]
theorem WB.c1 (h : WB W B d) : W.cell? ⟨B, 1, none⟩ = some (.pointer (some ⟨d.T, 0, none⟩)) := by simp [World.cell?, show W.heap[B]? = _ from h, Wd.cells]
theorem WB.c2 (h : WB W B d) : W.cell? ⟨B, 2, none⟩ = some (.int .u64 (d.first : Nat)) := by simp [World.cell?, show W.heap[B]? = _ from h, Wd.cells]
theorem WB.c3 (h : WB W B d) : W.cell? ⟨B, 3, none⟩ = some d.rv := by simp [World.cell?, show W.heap[B]? = _ from h, Wd.cells]
theorem WB.c4 (h : WB W B d) : W.cell? ⟨B, 4, none⟩ = some (.int .i64 (d.safe : Nat)) := by simp [World.cell?, show W.heap[B]? = _ from h, Wd.cells]
theorem WB.c5 (h : WB W B d) : W.cell? ⟨B, 5, none⟩ = some d.sv := by simp [World.cell?, show W.heap[B]? = _ from h, Wd.cells]
theorem WB.c6 (h : WB W B d) : W.cell? ⟨B, 6, none⟩ = some (.bool d.down) := by simp [World.cell?, show W.heap[B]? = _ from h, Wd.cells]
theorem WB.c7 (h : WB W B d) : W.cell? ⟨B, 7, none⟩ = some (.int .i64 (d.under : Nat)) := by simp [World.cell?, show W.heap[B]? = _ from h, Wd.cells]
theorem WB.c8 (h : WB W B d) : W.cell? ⟨B, 8, none⟩ = some d.bb := by simp [World.cell?, show W.heap[B]? = _ from h, Wd.cells]
theorem WB.c9 (h : WB W B d) : W.cell? ⟨B, 9, none⟩ = some (.bool d.room) := by simp [World.cell?, show W.heap[B]? = _ from h, Wd.cells]
theorem WB.fz (h : WB W B d) (i : Nat) : W.frozen? ⟨B, i, none⟩ = false := by simp [World.frozen?, show W.heap[B]? = _ from h]
theorem WB.set (h : WB W B d) (i : Nat) (u : Value) (d' : Wd) (hd : d.cells.setIfInBounds i u = d'.cells) : WB (W.setCell ⟨B, i, none⟩ u) B d' := by
  unfold WB World.setCell; simp only [Array.getElem?_modify, if_true, show W.heap[B]? = _ from h]; rw [← hd]; rfl
theorem WB.kept {S : Nat → Prop} (h : WB W B d) (hk : Kept S W W') (hS : ¬ S B) : WB W' B d := hk.heap h hS
theorem WB.lt (h : WB W B d) : B < W.heap.size := (Array.getElem?_eq_some_iff.1 (show W.heap[B]? = _ from h)).1
theorem WB.noRow (h : WB W B d) {base e size n : Nat} {u : Value} {xs : List Value} (ho : W.ownsRow base e size u n xs) (he : e ≠ 32) : u.ownBlock ≠ some B := fun e2 => by
  rcases ho.2 with ⟨hv, _⟩ | ⟨g, _, _, hv, _, hh, _⟩
  · rw [hv] at e2; cases e2
  · rw [hv] at e2
    have hg : g = B := by simpa [Value.ownBlock] using e2
    subst hg
    rw [show W.heap[g]? = _ from h] at hh
    simp only [Option.some.injEq, Obj.cells.injEq] at hh
    exact he hh.2.1.symm
end
/-- What should be there, as the world keeps it. -/
structure WG (w0 W : World) (B : Nat) (d : Wd) (G : List Prt) (rs : List BV) (N : Nat) : Prop where
  wb : WB W B d
  rv : RowS W w0.heap.size 30 d.rv (rs.map BV.val) N
  sv : SegAt W w0.heap.size d.sv G
  all : rs.map BV.b = allR G
  fst : d.first = fstP G
  src : ∀ r ∈ rs, Bs w0 r.A r.b
  hB : w0.heap.size ≤ B
/-- What its methods may turn. -/
def WFoot (B : Nat) (d : Wd) (k : Nat) : Prop := k = B ∨ d.rv.ownBlock = some k ∨ d.sv.ownBlock = some k
section
variable {w0 W W' : World} {B N : Nat} {d : Wd} {G : List Prt} {rs : List BV}
theorem WG.stay (h : WG w0 W B d G rs N) (hk : Kept (fun _ => False) W W') : WG w0 W' B d G rs N := ⟨h.wb.kept hk (by simp), h.rv.kept hk (by simp), own_kept h.sv hk (by simp), h.all, h.fst, h.src, h.hB⟩
theorem WG.kept {S : Nat → Prop} (h : WG w0 W B d G rs N) (hk : Kept S W W') (hS : ∀ k, WFoot B d k → ¬ S k) : WG w0 W' B d G rs N := ⟨h.wb.kept hk (hS B (.inl rfl)), h.rv.kept hk (fun k e => hS k (.inr (.inl e))), own_kept h.sv hk (fun k e => hS k (.inr (.inr e))), h.all, h.fst, h.src, h.hB⟩
theorem WG.low (h : WG w0 W B d G rs N) : ∀ k, WFoot B d k → w0.heap.size ≤ k := fun k e => by
  rcases e with rfl | e | e
  · exact h.hB
  · exact h.rv.ge k e
  · exact own_ge h.sv k e
theorem WG.lt (h : WG w0 W B d G rs N) : ∀ k, WFoot B d k → k < W.heap.size := fun k e => by
  rcases e with rfl | e | e
  · exact h.wb.lt
  · exact h.rv.lt k e
  · exact own_ltH h.sv k e
theorem WG.nB (h : WG w0 W B d G rs N) : (∀ k, d.rv.ownBlock = some k → k ≠ B) ∧ (∀ k, d.sv.ownBlock = some k → k ≠ B) ∧ ∀ k, d.rv.ownBlock = some k → d.sv.ownBlock ≠ some k := by
  obtain ⟨v0, n0, ys, h1, h2⟩ := h.rv.own
  refine ⟨fun k e e2 => h.wb.noRow h1 (by decide) (by rw [h2, e, e2]), fun k e e2 => h.wb.noRow h.sv (by decide) (by rw [e, e2]), fun k e e2 => own_two (by decide) h1 h.sv k (by rw [h2]; exact e) e2⟩
theorem WG.len (h : WG w0 W B d G rs N) : rs.length = (allR G).length := by rw [← h.all, List.length_map]
theorem wNext_any (h : WG w0 W B d G rs N) (hc : Cont G) (h64 : nxtP G < 18446744073709551616) : Calls Tryz.prog 31 #[.pointer (some ⟨B, 0, none⟩)] W fun e w' => e = .returned (.int .u64 ((nxtP G : Nat) : Int)) ∧ ∃ m, w' = W.drewN m := by
  obtain ⟨A, c, hv, -, -, -⟩ := h.rv.read
  have c2 := h.wb.c2
  have c3 := h.wb.c3
  have hl := h.len
  rw [nxtP_eq hc, ← hl, ← h.fst] at h64 ⊢
  obtain ⟨f, hf⟩ : ∃ f, f = d.first := ⟨_, rfl⟩
  obtain ⟨r, hr⟩ : ∃ r, r = rs.length := ⟨_, rfl⟩
  rw [hv, List.length_map] at c3
  rw [← hf, ← hr] at h64 ⊢
  rw [← hf] at c2
  rw [← hr] at c3
  have h5 : IntKind.u64.wrap ((r : Nat) : Int) = (r : Int) := by rw [IntKind.wrap_u64]; omega
  have h6 : IntKind.u64.wrap ((f : Int) + (r : Int)) = ((f + r : Nat) : Int) := by rw [IntKind.wrap_u64]; omega
  obtain ⟨fr, hfr⟩ : ∃ fr, fr = f + r := ⟨_, rfl⟩
  rw [← hfr] at h6 ⊢
  clear h hc hv hl h64 hf hr hfr
  go_enter Tryz.func31, Tryz.ntmps31
  go_wp2_with fail
  go_quiet (fail)
  go_wp2
  go_ret
  exact ⟨rfl, _, rfl⟩
theorem wNext_kept (h : WG w0 W B d G rs N) (hc : Cont G) (h64 : nxtP G < 18446744073709551616) : Calls Tryz.prog 31 #[.pointer (some ⟨B, 0, none⟩)] W fun e w' => e = .returned (.int .u64 ((nxtP G : Nat) : Int)) ∧ Kept (fun _ => False) W w' := by
  refine (wNext_any h hc h64).mono ?_
  rintro e w' ⟨rfl, m, rfl⟩
  exact ⟨rfl, (Kept.refl _ _).drewN _⟩
set_option maxRecDepth 100000 in
set_option maxHeartbeats 8000000 in
theorem wTrims_any {most : Int} {m : Nat} (h : WG w0 W B d G rs N) (hm : (m : Int) = max most 0) (hG : G.length ≤ 100000) (hs : sumSz G ≤ 1000000000) :
    Calls Tryz.prog 25 #[.pointer (some ⟨B, 0, none⟩), .int .i64 most] W fun e w' => e = .returned (.int .i64 ((trimN G m : Nat) : Int)) ∧ Kept (fun _ => False) W w' := by
  have hsv := h.sv
  have c5 := h.wb.c5
  obtain ⟨A, c, hv, -, -, hlc, -⟩ := hsv.form
  rw [hv] at c5
  obtain ⟨n, hn⟩ : ∃ n, n = G.length := ⟨_, rfl⟩
  rw [← hn] at c5 hlc
  have hcl : G ≠ [] → ∃ g, A = some ⟨g, 0, none⟩ ∧ ∀ (j : Nat) p, G[j]? = some p → W.cell? ⟨g, j * 2, none⟩ = some (.int .u64 (p.1 : Nat)) ∧ W.cell? ⟨g, j * 2 + 1, none⟩ = some (.int .i64 (szP p : Nat)) := fun hne => by
    obtain ⟨g, c', hv', -, hc⟩ := hsv.cells hne
    rw [hv] at hv'
    simp only [Value.slice.injEq, true_and] at hv'
    exact ⟨g, hv'.1, hc⟩
  have Hcl := Lib.hid hcl
  have Hn := Lib.hid hn
  have Hs := Lib.hid hs
  have hn9 : n ≤ 100000 := by omega
  have hmx : max most 0 = (m : Int) := hm.symm
  have hmx2 : max 0 most = (m : Int) := by omega
  clear h hsv hv hcl hn hs hG hm
  go_enter Tryz.func25, Tryz.ntmps25
  go_wp2_with fail
  go_loopw [5, 7] (fun s i wr => ∃ k : Nat, k ≤ n ∧ i = .int .i64 (k : Nat) ∧ s = .int .i64 ((sumSz (G.take k) : Nat) : Int) ∧ Hid (Kept (fun _ => False) W wr)) (fun _ i _ => n - (intOf i).toNat)
  case' atStart => exact ⟨0, by omega, rfl, rfl, Lib.hid (Kept.refl _ _)⟩
  obtain ⟨k, hk, rfl, rfl, hK⟩ := hrel
  have c5r := hK.out.cell c5 (by simp)
  by_cases hkl : k < n
  · have hk9 : (k : Int) < (n : Int) := by omega
    obtain ⟨p, hp⟩ : ∃ p, G[k]? = some p := ⟨_, List.getElem?_eq_getElem (by have := Hn.out; omega)⟩
    obtain ⟨g, rfl, hcell⟩ := Hcl.out (fun e => by have := Hn.out; rw [e] at this; simp at this; omega)
    have y1 := hK.out.cell (hcell k p hp).2 (by simp)
    obtain ⟨s0, hs0⟩ : ∃ s0, s0 = sumSz (G.take k) := ⟨_, rfl⟩
    obtain ⟨sz, hsz⟩ : ∃ sz, sz = szP p := ⟨_, rfl⟩
    have hsum := sumSz_take _ _ _ hp
    have hle := sumSz_le G (k + 1)
    rw [← hs0, ← hsz] at hsum
    rw [← hsz] at y1
    rw [← hs0]
    have hb : s0 + sz ≤ 1000000000 := by have := Hs.out; omega
    have Hsum : Hid (sumSz (G.take (k + 1)) = s0 + sz) := Lib.hid hsum
    clear hs0 hsz hsum hle hcell hp
    go_wp2_with fail
    go_roundw
    case rel => exact ⟨k + 1, by omega, by go_num, by rw [Hsum.out]; go_num, hK⟩
    case measure => simp [intOf]; omega
  · have hk9 : ¬ (k : Int) < (n : Int) := by omega
    have HT : Hid (G.take k = G) := Lib.hid (List.take_of_length_le (by have := Hn.out; omega))
    rw [HT.out]
    obtain ⟨w1, hw1⟩ : ∃ w1, w1 = wr := ⟨_, rfl⟩
    rw [← hw1] at hK ⊢ c5r
    clear hw1 HT
    go_wp2_with fail
    go_loopw [5, 6] (fun s i wr => ∃ j : Nat, j ≤ n ∧ i = .int .i64 (j : Nat) ∧ s = .int .i64 ((sumSz (G.drop j) : Nat) : Int) ∧ Hid (trimN G m = j + trimN (G.drop j) m) ∧ Hid (Kept (fun _ => False) w1 wr)) (fun _ i _ => n - (intOf i).toNat)
    case' atStart => exact ⟨0, by omega, rfl, rfl, Lib.hid (by simp), Lib.hid (Kept.refl _ _)⟩
    obtain ⟨j, hj, rfl, rfl, hT, hK2⟩ := hrel
    have c5s := hK2.out.cell c5r (by simp)
    have hle := sumSz_drop G j
    obtain ⟨s0, hs0⟩ : ∃ s0, s0 = sumSz (G.drop j) := ⟨_, rfl⟩
    rw [← hs0] at hle ⊢
    have hb : s0 ≤ 1000000000 := by have := Hs.out; omega
    by_cases hgo : j + 1 < n ∧ m < s0
    · have g1 : (j : Int) + 1 < (n : Int) := by omega
      have g2 : (m : Int) < (s0 : Int) := by omega
      obtain ⟨p, hp⟩ : ∃ p, G[j]? = some p := ⟨_, List.getElem?_eq_getElem (by have := Hn.out; omega)⟩
      obtain ⟨g, rfl, hcell⟩ := Hcl.out (fun e => by have := Hn.out; rw [e] at this; simp at this; omega)
      have y1 := (hK.out.trans' hK2.out).cell (hcell j p hp).2 (by simp)
      obtain ⟨sz, hsz⟩ : ∃ sz, sz = szP p := ⟨_, rfl⟩
      rw [← hsz] at y1
      have hd : G.drop j = p :: G.drop (j + 1) := by
        rw [List.drop_eq_getElem_cons (by have := Hn.out; omega)]
        congr 1
        have := List.getElem?_eq_some_iff.1 hp
        exact this.2
      have hsum : s0 = sz + sumSz (G.drop (j + 1)) := by rw [hs0, hd, sumSz_cons, hsz]
      have HT2 : Hid (trimN G m = (j + 1) + trimN (G.drop (j + 1)) m) := Lib.hid (by
        rw [hT.out, trimN_more (by rw [List.length_drop]; have := Hn.out; omega) (by rw [← hs0]; omega), List.drop_drop]
        omega)
      have Hsum : Hid (sumSz (G.drop (j + 1)) = s0 - sz ∧ sz ≤ s0) := Lib.hid (by omega)
      have hsz9 : sz ≤ s0 := Hsum.out.2
      clear hs0 hsz hsum hle hcell hp hd
      go_wp2_with fail
      go_roundw
      case rel => exact ⟨j + 1, by omega, by go_num, by rw [Hsum.out.1]; go_num, HT2, hK2⟩
      case measure => simp [intOf]; omega
    · have HE : Hid (trimN G m = j) := Lib.hid (by
        have := hT.out
        rcases Nat.lt_or_ge (j + 1) n with h1 | h1
        · rw [trimN_fit (G := G.drop j) (by omega)] at this; omega
        · rw [trimN_few (G := G.drop j) m (by rw [List.length_drop]; have := Hn.out; omega)] at this; omega)
      have g1 : ((j : Int) + 1 < (n : Int) ∧ ¬ (m : Int) < (s0 : Int)) ∨ ¬ (j : Int) + 1 < (n : Int) := by omega
      clear hs0 hle
      rcases g1 with ⟨g1, g2⟩ | g1
      all_goals
        go_wp2_with fail
        go_ret
        exact ⟨by rw [HE.out]; rfl, hK.out.trans' hK2.out⟩
end
end Go.Proofs.YtibalgfejfjndaaGreatDoor
end

/-! SeglogPlays' world: drop. -/
section
set_option linter.unusedVariables false
set_option linter.unusedSimpArgs false
namespace Go.Proofs.YtibalgfejfjndaaGreatDoor
open Go.RowKit

theorem slice_from1Sg (W : World) (G n c : Nat) (h1 : 1 < n) (h2 : n ≤ c) : (Instr.slice 29 (.slice (some ⟨G, 0, none⟩) n c) (some (.int .i64 1)) none none).run Tryz.prog W = .ok (.slice (some ⟨G, 2, none⟩) (n - 1) (c - 1)) W := by
  have hsz : ∀ W, (sizeOf 103).run Tryz.prog W = .ok 2 W := fun W => by kernel_rfl
  have h3 : (0 : Int) ≤ (1 : Int) ∧ (1 : Int) ≤ (n : Int) := by omega
  have h4 : (0 : Int) ≤ (n : Int) ∧ (n : Int) ≤ (c : Int) := by omega
  have h5 : ¬ c = 1 := by omega
  simp only [Instr.slice, Sem.run_bind, run_underlying Tryz.underlying29, Result.andThen, Instr.sliceBounds, Instr.sliceBound, asIntOf, Sem.run_pure, if_pos h3, if_pos h4, hsz]
  simp [h5, Addr.add]
theorem slice_fromBs (W : World) (g o n c k : Nat) (h1 : k ≤ n) (h2 : n ≤ c) (h3 : k < c) : (Instr.slice 28 (.slice (some ⟨g, o, none⟩) n c) (some (.int .i64 (k : Nat))) none none).run Tryz.prog W = .ok (.slice (some ⟨g, o + k, none⟩) (n - k) (c - k)) W := by
  have hsz : ∀ W, (sizeOf 30).run Tryz.prog W = .ok 1 W := fun W => by kernel_rfl
  have h3' : (0 : Int) ≤ (k : Int) ∧ (k : Int) ≤ (n : Int) := by omega
  have h4 : (0 : Int) ≤ (n : Int) ∧ (n : Int) ≤ (c : Int) := by omega
  have h5 : ¬ c = k := by omega
  simp only [Instr.slice, Sem.run_bind, run_underlying Tryz.underlying28, Result.andThen, Instr.sliceBounds, Instr.sliceBound, asIntOf, Sem.run_pure, if_pos h3', if_pos h4, hsz]
  simp [h5, add_none]
theorem cellsS_one (G : List Prt) : ∀ u ∈ cellsS G, u.oneCell' = true := fun u hu => by
  obtain ⟨p, -, hp⟩ := List.mem_flatMap.1 hu
  simp only [List.mem_cons, List.not_mem_nil, or_false] at hp
  rcases hp with rfl | rfl <;> rfl
/-- What a method leaves. -/
structure WMv (w0 W : World) (B : Nat) (d : Wd) (W' : World) (d' : Wd) : Prop where
  kept : Kept (WFoot B d) W W'
  feet : ∀ k, WFoot B d' k → WFoot B d k ∨ W.heap.size ≤ k
section
variable {w0 W W' W'' : World} {B N : Nat} {d d' d'' : Wd} {G : List Prt} {rs : List BV}
theorem WMv.refl : WMv w0 W B d W d := ⟨Kept.refl _ _, fun k e => .inl e⟩
theorem WMv.trans (h : WMv w0 W B d W' d') (k : WMv w0 W' B d' W'' d'') : WMv w0 W B d W'' d'' :=
  ⟨h.kept.trans k.kept fun i hi e => (h.feet i e).resolve_right (by omega), fun i e => (k.feet i e).elim (h.feet i) fun e => .inr (Nat.le_trans h.kept.size e)⟩
theorem WMv.stay (h : WMv w0 W B d W' d') (hk : Kept (fun _ => False) W' W'') : WMv w0 W B d W'' d' := ⟨h.kept.trans' (hk.mono fun _ _ e => False.elim e), h.feet⟩
/-- A field of it is set, none of the rows. -/
theorem WG.put0 (h : WG w0 W B d G rs N) (i : Nat) (u : Value) (d2 : Wd) (hd : d.cells.setIfInBounds i u = d2.cells) (e1 : d2.rv = d.rv) (e2 : d2.sv = d.sv) (e3 : d2.first = d.first) : WG w0 (W.setCell ⟨B, i, none⟩ u) B d2 G rs N ∧ WMv w0 W B d (W.setCell ⟨B, i, none⟩ u) d2 := by
  have hk := kF W B i u
  have hn := h.nB
  refine ⟨⟨h.wb.set i u d2 hd, by rw [e1]; exact h.rv.kept hk (fun k e => hn.1 k e), by rw [e2]; exact own_kept h.sv hk (fun k e => hn.2.1 k e), h.all, by rw [e3]; exact h.fst, h.src, h.hB⟩, ⟨hk.mono fun k _ e => .inl e, fun k e => .inl ?_⟩⟩
  unfold WFoot at e ⊢
  rw [e1, e2] at e
  exact e
/-- What all methods but open leave as it is. -/
structure Wd.Like (d d' : Wd) : Prop where
  F : d'.F = d.F
  T : d'.T = d.T
  down : d'.down = d.down
  under : d'.under = d.under
  bb : d'.bb = d.bb
  room : d'.room = d.room
set_option maxRecDepth 100000 in
set_option maxHeartbeats 8000000 in
theorem wDrop_any {p q : Prt} (h : WG w0 W B d (p :: q :: G) rs N) (hw0 : w0.heap.size ≤ W.heap.size) (hc : Cont (p :: q :: G)) (hne : p.2.length < rs.length) (h64 : nxtP (p :: q :: G) ≤ 1000000) (hGl : G.length ≤ 1000) (hs : d.safe ≤ 1000000) :
    Calls Tryz.prog 26 #[.pointer (some ⟨B, 0, none⟩)] W fun e w' => e = .returned (.tuple #[]) ∧ ∃ d', WG w0 w' B d' (q :: G) (rs.drop p.2.length) N ∧ WMv w0 W B d w' d' ∧ d'.safe = d.safe - p.2.length ∧ d.Like d' := by
  obtain ⟨k, hk⟩ : ∃ k, k = p.2.length := ⟨_, rfl⟩
  rw [← hk] at hne ⊢
  have hq1 : q.1 = p.1 + k := by rw [hk]; exact hc.1
  have hpf : d.first = p.1 := h.fst
  have hp9 : p.1 + k ≤ 1000000 := by
    have := Cont.lt_end hc p (by simp)
    unfold endP at this; omega
  obtain ⟨s, c, hsv, hnc, hcell⟩ := h.sv.cells (by simp)
  obtain ⟨g, o, cap, hrv, hLc, hR2⟩ := h.rv.drop k (by rw [List.length_map]; omega)
  rw [List.length_map] at hrv hLc hR2
  have y0 : W.cell? ⟨s, 2, none⟩ = some (.int .u64 (q.1 : Nat)) := (hcell 1 q rfl).1
  have hCs : Cs W (some ⟨s, 2, none⟩) (cellsS (q :: G)) := ⟨fun e => (by cases e), fun ad e j u hu => by
    injection e with e
    subst e
    have h1 := World.ownsRow.cells h.sv (g := s) (by rw [hsv]; rfl) (j + 2) u (by
      rw [show cellsS (p :: q :: G) = [.int .u64 (p.1 : Nat), .int .i64 (szP p : Nat)] ++ cellsS (q :: G) from rfl, List.getElem?_append_right (by simp)]
      simpa using hu)
    rw [add_none] at h1 ⊢
    rwa [show 2 + j = 0 + (j + 2) by omega]⟩
  have c2 := h.wb.c2
  have c3 := h.wb.c3
  have c4 := h.wb.c4
  have c5 := h.wb.c5
  rw [hpf] at c2
  rw [hrv] at c3
  rw [hsv] at c5
  obtain ⟨n, hn⟩ : ∃ n, n = (p :: q :: G).length := ⟨_, rfl⟩
  obtain ⟨L, hL⟩ : ∃ L, L = rs.length := ⟨_, rfl⟩
  rw [← hn] at c5 hnc
  rw [← hL] at c3 hLc hR2 hne hrv
  have hn1 : n = G.length + 2 := hn
  have hs1 := fun W => slice_from1Sg W s n c (by omega) hnc
  have hs2 := fun W => slice_fromBs W g o L cap k (by omega) hLc (by omega)
  have i1 : IntKind.u64.wrap ((q.1 : Int) - (p.1 : Int)) = (k : Int) := by rw [IntKind.wrap_u64]; omega
  have i2 : IntKind.i64.wrap ((k : Nat) : Int) = (k : Int) := by rw [IntKind.wrap_i64]; omega
  obtain ⟨sf, hsf⟩ : ∃ sf, sf = d.safe := ⟨_, rfl⟩
  rw [← hsf] at c4 hs ⊢
  have i3 : max 0 ((sf : Int) - (k : Int)) = ((sf - k : Nat) : Int) := by omega
  obtain ⟨q1, hqq⟩ : ∃ q1, q1 = q.1 := ⟨_, rfl⟩
  obtain ⟨p1, hpp⟩ : ∃ p1, p1 = p.1 := ⟨_, rfl⟩
  rw [← hqq, ← hpp] at i1
  rw [← hqq] at y0
  rw [← hpp] at c2
  have H := Lib.hid h
  have HCs := Lib.hid hCs
  have Hn := Lib.hid hn1
  have Hrv := Lib.hid hrv
  have HR2 := Lib.hid hR2
  have Hqq := Lib.hid hqq
  have Hsf := Lib.hid hsf
  have fz := h.wb.fz 5
  have n9 : n ≤ 100000 := by omega
  have x1 : 1 < n := by omega
  have x1i : (1 : Int) < (n : Int) := by omega
  have k9 : k ≤ 1000000 := by omega
  have Hwb := Lib.hid h.wb
  have Hnb := Lib.hid h.nB
  have Hw0 := Lib.hid hw0
  have Hall : Hid ((rs.drop k).map BV.b = allR (q :: G)) := Lib.hid (by
    rw [List.map_drop, h.all, show allR (p :: q :: G) = p.2 ++ allR (q :: G) from rfl, hk, List.drop_left])
  clear h hw0 hc hcell hCs hR2 hn hn1 hL hq1 hpf hp9 h64 hqq hpp hsf hk hrv hsv hGl hne
  go_enter Tryz.func26, Tryz.ntmps26
  go_wp2_with fail
  go_quiet (fail)
  obtain ⟨W1, hW1⟩ : ∃ W1, W1 = W.drewN nq := ⟨_, rfl⟩
  have hk1 : Kept (fun _ => False) W W1 := by rw [hW1]; exact (Kept.refl _ W).drewN _
  rw [← hW1]
  clear hW1
  have HK1 := Lib.hid hk1
  have c3 := hk1.cell c3 (by simp)
  have c4 := hk1.cell c4 (by simp)
  have c5 := hk1.cell c5 (by simp)
  have HC1 : Hid (Cs W1 (some ⟨s, 2, none⟩) (cellsS (q :: G)) ∧ (cellsS (q :: G)).length = (n - 1) * 2 ∧ w0.heap.size ≤ W1.heap.size) := Lib.hid ⟨HCs.out.kept hk1 (by simp), by rw [cellsS_len, List.length_cons]; have := Hn.out; omega, Nat.le_trans Hw0.out hk1.size⟩
  have HFz : Hid (∀ W', Kept (fun _ => False) W W' → W'.frozen? ⟨B, 5, none⟩ = false) := Lib.hid fun W' h' => (H.out.stay h').wb.fz 5
  clear hk1
  go_upto_region 2 with (at_builtin; refine wpList_append_e elemSg rfl _ _ rfl w0.heap.size (.slice none 0 0) 0 [] rfl (World.ownsRow_nil _ _ _ _) (some ⟨s, 2, none⟩) (n - 1) (c - 1) (cellsS (q :: G)) rfl HC1.out.1 HC1.out.2.1 (cellsS_one _) (fun e => by cases e) (by omega) HC1.out.2.2 ?_; intro v2 w2 hown hgrow; rw [Nat.zero_add, List.nil_append] at hown; obtain ⟨A2, k2, rfl⟩ := own_slice hown; have HO2 := Lib.hid hown; have HK2 : Hid (Kept (fun _ => False) W w2) := Lib.hid (HK1.out.trans' (hgrow.kept.mono fun k _ e => by cases e)); have HG2 : Hid (∀ x, (Value.slice A2 (n - 1) k2).ownBlock = some x → WFoot B d x ∨ W.heap.size ≤ x) := Lib.hid (fun x e => hgrow.elim (fun h9 => by rw [h9.1] at e; cases e) (fun h9 => by rw [h9.1] at e; injection e with e; have := HK1.out.size; exact .inr (by omega))); have f5 := HFz.out _ HK2.out; have g5 := (H.out.stay HK2.out).wb.c5; clear hown hgrow)
  obtain ⟨W3, hW3⟩ : ∃ W3, W3 = w2.setCell ⟨B, 5, none⟩ (.slice A2 (n - 1) k2) := ⟨_, rfl⟩
  have h2 := H.out.stay HK2.out
  have hb3 : WB W3 B { d with sv := .slice A2 (n - 1) k2 } := by rw [hW3]; exact h2.wb.set 5 _ _ rfl
  have hset3 : Kept (fun k => k = B) w2 W3 := by rw [hW3]; exact kF w2 B 5 _
  have n2 : ∀ q, (Value.slice A2 (n - 1) k2).ownBlock = some q → q ≠ B := fun q e e2 => h2.wb.noRow HO2.out (by decide) (by rw [e, e2])
  have hO3 : SegAt W3 w0.heap.size (.slice A2 (n - 1) k2) (q :: G) := by
    have := own_kept HO2.out hset3 fun k e => n2 k e
    unfold SegAt
    rw [List.length_cons]
    rwa [show n - 1 = G.length + 1 by have := Hn.out; omega] at this ⊢
  have hR3 : RowS W3 w0.heap.size 30 (.slice (some ⟨g, o + k, none⟩) (L - k) (cap - k)) ((rs.map BV.val).drop k) N := (HR2.out.kept HK2.out (by simp)).kept hset3 fun q e => by
    have := Hnb.out.1 q (by rw [Hrv.out]; exact e)
    exact this
  rw [← hW3]
  have HB3 := Lib.hid hb3
  have HO3 := Lib.hid hO3
  have HR3 := Lib.hid hR3
  have HK3 : Hid (Kept (fun k => k = B) W W3) := Lib.hid ((HK2.out.mono fun _ _ e => False.elim e).trans' hset3)
  have c3 := hb3.c3
  have c4 := hb3.c4
  have fz3 := hb3.fz 3
  rw [show ({ d with sv := Value.slice A2 (n - 1) k2 } : Wd).rv = d.rv from rfl, Hrv.out] at c3
  clear h2 hb3 hset3 n2 hO3 hR3 hW3 g5 f5
  go_upto_region 3 with fail
  obtain ⟨W4, hW4⟩ : ∃ W4, W4 = W3.setCell ⟨B, 3, none⟩ (.slice (some ⟨g, o + k, none⟩) (L - k) (cap - k)) := ⟨_, rfl⟩
  have hb4 : WB W4 B { d with sv := .slice A2 (n - 1) k2, rv := .slice (some ⟨g, o + k, none⟩) (L - k) (cap - k) } := by rw [hW4]; exact HB3.out.set 3 _ _ rfl
  have hset4 : Kept (fun k => k = B) W3 W4 := by rw [hW4]; exact kF W3 B 3 _
  rw [← hW4]
  have HB4 := Lib.hid hb4
  have HK4 := Lib.hid hset4
  have c4 := hb4.c4
  have fz4 := hb4.fz 4
  rw [show ({ d with sv := Value.slice A2 (n - 1) k2, rv := .slice (some ⟨g, o + k, none⟩) (L - k) (cap - k) } : Wd).safe = d.safe from rfl, ← Hsf.out] at c4
  clear hb4 hset4 hW4 fz3
  go_upto_region 4 with fail
  obtain ⟨W5, hW5⟩ : ∃ W5, W5 = W4.setCell ⟨B, 4, none⟩ (.int .i64 ((sf - k : Nat) : Int)) := ⟨_, rfl⟩
  obtain ⟨d5, hd5⟩ : ∃ d5 : Wd, d5 = { d with sv := .slice A2 (n - 1) k2, rv := .slice (some ⟨g, o + k, none⟩) (L - k) (cap - k), safe := sf - k } := ⟨_, rfl⟩
  have hb5 : WB W5 B d5 := by rw [hW5, hd5]; exact HB4.out.set 4 _ _ rfl
  have hset5 : Kept (fun k => k = B) W4 W5 := by rw [hW5]; exact kF W4 B 4 _
  rw [← hW5]
  have HK35 : Hid (Kept (fun k => k = B) W3 W5) := Lib.hid (HK4.out.trans' hset5)
  have n2 : ∀ q, (Value.slice A2 (n - 1) k2).ownBlock = some q → q ≠ B := fun q e e2 => HB3.out.noRow HO3.out (by decide) (by rw [e, e2])
  have hO5 : SegAt W5 w0.heap.size (.slice A2 (n - 1) k2) (q :: G) := own_kept HO3.out HK35.out fun k e => n2 k e
  obtain ⟨g3, c3', e3, -, hcell3⟩ := hO5.cells (by simp)
  have y5 := (hcell3 0 q rfl).1
  simp only [Value.slice.injEq] at e3
  obtain ⟨rfl, -, rfl⟩ := e3
  rw [Nat.zero_mul, ← Hqq.out] at y5
  have c2 := hb5.c2
  have c5 := hb5.c5
  have fz2 := hb5.fz 2
  rw [show d5.sv = Value.slice (some ⟨g3, 0, none⟩) (n - 1) k2 by rw [hd5]] at c5
  have x0 : 0 < n - 1 := by omega
  have HB5 := Lib.hid hb5
  have HO5 := Lib.hid hO5
  have HN2 := Lib.hid n2
  have Hd5 := Lib.hid hd5
  clear hb5 hset5 hW5 fz4 hO5 n2 hcell3 hd5
  go_wp2_with fail
  go_end0
  obtain ⟨W6, hW6⟩ : ∃ W6, W6 = W5.setCell ⟨B, 2, none⟩ (.int .u64 (q1 : Nat)) := ⟨_, rfl⟩
  rw [← hW6]
  have hset6 : Kept (fun k => k = B) W5 W6 := by rw [hW6]; exact kF W5 B 2 _
  have hb6 : WB W6 B { d5 with first := q1 } := by rw [hW6]; exact HB5.out.set 2 _ _ rfl
  have hk36 : Kept (fun k => k = B) W3 W6 := HK35.out.trans' hset6
  refine ⟨rfl, { d5 with first := q1 }, ⟨hb6, ?_, ?_, Hall.out, ?_, fun r hr => H.out.src r (List.mem_of_mem_drop hr), H.out.hB⟩, ⟨(HK3.out.trans' hk36).mono fun k _ e => .inl e, fun x e => ?_⟩, by rw [Hd5.out], ?_⟩
  · rw [show ({ d5 with first := q1 } : Wd).rv = .slice (some ⟨g, o + k, none⟩) (L - k) (cap - k) by rw [Hd5.out], List.map_drop]
    exact HR3.out.kept hk36 fun x e => by
      have := Hnb.out.1 x (by rw [Hrv.out]; exact e)
      exact this
  · rw [show ({ d5 with first := q1 } : Wd).sv = .slice (some ⟨g3, 0, none⟩) (n - 1) k2 by rw [Hd5.out]]
    exact own_kept HO5.out hset6 fun x e => HN2.out x e
  · rw [Hqq.out]; simp [fstP]
  · rcases e with e | e | e
    · exact .inl (.inl e)
    · refine .inl (.inr (.inl ?_))
      rw [Hrv.out]
      rw [show ({ d5 with first := q1 } : Wd).rv = .slice (some ⟨g, o + k, none⟩) (L - k) (cap - k) by rw [Hd5.out]] at e
      exact e
    · rw [show ({ d5 with first := q1 } : Wd).sv = .slice (some ⟨g3, 0, none⟩) (n - 1) k2 by rw [Hd5.out]] at e
      exact HG2.out x e
  · rw [Hd5.out]
    exact ⟨rfl, rfl, rfl, rfl, rfl, rfl⟩
end
end Go.Proofs.YtibalgfejfjndaaGreatDoor
end
