import Derived.Test.YtefpigakhhfcaaaDoorMbt
import Derived.Lib.SlBytesConst
/-! couranthelp.Plain over segments: two lists that are alike. -/
section
set_option linter.unusedVariables false
set_option linter.unusedSimpArgs false
namespace Go.Proofs.YtefpigakhhfcaaaDoor
open Go.RowKit

set_option maxRecDepth 100000 in
set_option maxHeartbeats 1000000 in
theorem plainSg1_any (w : World) (a b : Nat) : Calls Tryd.prog 41 #[.agg #[.int .u64 (a : Nat), .int .i64 (b : Nat)], .agg #[.int .u64 (a : Nat), .int .i64 (b : Nat)]] w fun e w' => e = .returned (.bool true) ∧ Kept (fun _ => False) w w' := by
  have hk : Kept (fun _ => False) w ((w.alloc (.cells #[.int .u64 (a : Nat), .int .i64 (b : Nat)] 53)).alloc (.cells #[.int .u64 (a : Nat), .int .i64 (b : Nat)] 53)) := ((Kept.refl _ w).alloc _).alloc _
  have HK := Lib.hid hk
  clear hk
  go_enter Tryd.func41, Tryd.ntmps41
  go_wp2
  go_ret
  exact ⟨rfl, HK.out⟩
/-- Segments, as they are told, that can be read. -/
def SgAt (w : World) (A : Option Addr) (G : List Prt) : Prop := ∀ (j : Nat) p, G[j]? = some p → ∃ ad, A = some ad ∧ w.cell? (ad.add (j * 2)) = some (.int .u64 (p.1 : Nat)) ∧ w.cell? ⟨(ad.add (j * 2)).block, (ad.add (j * 2)).off + 1, none⟩ = some (.int .i64 (szP p : Nat))
theorem SgAt.kept {S : Nat → Prop} {w w' : World} {A : Option Addr} {G : List Prt} (h : SgAt w A G) (hk : Kept S w w') (hS : ∀ ad, A = some ad → ¬ S ad.block) : SgAt w' A G := fun j p hp => by
  obtain ⟨ad, h1, h2, h3⟩ := h j p hp
  exact ⟨ad, h1, hk.cell h2 (by rw [add_block]; exact hS ad h1), hk.cell h3 (by rw [add_block]; exact hS ad h1)⟩
theorem SegAt.form {w : World} {b : Nat} {v : Value} {G : List Prt} (h : SegAt w b v G) : ∃ A c, v = .slice A G.length c ∧ SgAt w A G ∧ (A = none → c = 0) ∧ G.length ≤ c ∧ (∀ ad, A = some ad → ∃ g, ad = ⟨g, 0, none⟩ ∧ v.ownBlock = some g) := by
  rcases h.2 with ⟨hv, h0⟩ | ⟨g, cap, cur, hv, hb, hh, h1, h2, h3, h4⟩
  · have hG := List.eq_nil_of_length_eq_zero h0
    subst hG
    exact ⟨none, 0, hv, fun j p hp => by simp at hp, fun _ => rfl, Nat.le_refl _, fun ad e => by cases e⟩
  · refine ⟨some ⟨g, 0, none⟩, cap, hv, fun j p hp => ⟨_, rfl, ?_⟩, fun e => (by cases e), h1, fun ad e => by injection e with e; subst e; exact ⟨g, rfl, by rw [hv]; rfl⟩⟩
    have hl : v.ownBlock = some g := by rw [hv]; rfl
    obtain ⟨c0, c1⟩ := cellsS_at G j p hp
    have k0 := h.cells hl (j * 2) _ c0
    have k1 := h.cells hl (j * 2 + 1) _ c1
    have e0 : ∀ n, (⟨g, 0, none⟩ : Addr).add n = ⟨g, n, none⟩ := fun n => by unfold Addr.add; split <;> simp_all <;> omega
    rw [e0] at k0 k1
    rw [e0]
    exact ⟨k0, k1⟩
set_option maxRecDepth 100000 in
set_option maxHeartbeats 8000000 in
theorem sameSg_eq (w : World) (A A' : Option Addr) (n c c' : Nat) (G : List Prt) (hn : n = G.length) (hn9 : n ≤ 1000000) (h : SgAt w A G) (h' : SgAt w A' G) :
    Calls Tryd.prog 40 #[.slice A n c, .slice A' n c', .func (.func 41) #[] #[]] w fun e w' => e = .returned (.bool true) ∧ Kept (fun _ => False) w w' := by
  have H := Lib.hid h
  have H' := Lib.hid h'
  have Hn := Lib.hid hn
  clear h h' hn
  have hn8 : (n : Int) ≤ 1000000 := by omega
  go_enter Tryd.func40, Tryd.ntmps40
  go_wp2_with fail
  go_loopw [7] (fun i wr => ∃ k : Nat, k ≤ n ∧ i = .int .i64 k ∧ Hid (Kept (fun _ => False) w wr)) (fun i _ => n - (intOf i).toNat)
  case atStart => exact ⟨0, by omega, rfl, Lib.hid (Kept.refl _ _)⟩
  case round =>
    obtain ⟨k, hk, rfl, hK⟩ := hrel
    by_cases hlt : k < n
    · have hk9 : (k : Int) < (n : Int) := by omega
      obtain ⟨p, hp⟩ : ∃ p, G[k]? = some p := ⟨_, List.getElem?_eq_getElem (by have := Hn.out; omega)⟩
      obtain ⟨a1, rfl, x0, x1⟩ := H.out k p hp
      obtain ⟨a2, rfl, y0, y1⟩ := H'.out k p hp
      have x0 := hK.out.cell x0 (by simp)
      have x1 := hK.out.cell x1 (by simp)
      have y0 := hK.out.cell y0 (by simp)
      have y1 := hK.out.cell y1 (by simp)
      obtain ⟨f, hf⟩ : ∃ f, f = p.1 := ⟨_, rfl⟩
      obtain ⟨z, hz⟩ : ∃ z, z = szP p := ⟨_, rfl⟩
      rw [← hf] at x0 y0
      rw [← hz] at x1 y1
      have HP := Lib.hid (plainSg1_any wr.drew f z)
      clear hp hf hz
      go_upto_region 6 with fail
      go_region_held3 (fun W => W.cell? (a1.add (k * 2)) = some (.int .u64 (f : Nat)) ∧ W.cell? ⟨(a1.add (k * 2)).block, (a1.add (k * 2)).off + 1, none⟩ = some (.int .i64 (z : Nat)) ∧ W.cell? (a2.add (k * 2)) = some (.int .u64 (f : Nat)) ∧ W.cell? ⟨(a2.add (k * 2)).block, (a2.add (k * 2)).off + 1, none⟩ = some (.int .i64 (z : Nat))) (first | assumption | exact ⟨x0, x1, y0, y1⟩ | exact ⟨HC9.out _ _ x0, HC9.out _ _ x1, HC9.out _ _ y0, HC9.out _ _ y1⟩ | simp [*]) (first
        | (go_at_call 41; refine HP.out.mono ?_; rintro e w9 ⟨rfl, hk9'⟩; have HK9 := Lib.hid hk9'; have HC9 : Hid (∀ (ad : Addr) (v : Value), wr.cell? ad = some v → w9.cell? ad = some v) := Lib.hid fun ad v hc => hk9'.cell (by simpa using hc) (by simp); clear hk9'))
      go_wp2
      go_roundw
      case rel => exact ⟨k + 1, by omega, by go_num, Lib.hid (hK.out.drew.trans' HK9.out)⟩
      case measure => simp [intOf]; omega
    · have hk9 : ¬ (k : Int) < (n : Int) := by omega
      go_wp2
      go_ret
      exact ⟨rfl, hK.out⟩
set_option maxHeartbeats 1000000 in
theorem plainSg_eq (w : World) (A A' : Option Addr) (n c c' : Nat) (G : List Prt) (hn : n = G.length) (hn9 : n ≤ 1000000) (h : SgAt w A G) (h' : SgAt w A' G) :
    Calls Tryd.prog 18 #[.slice A n c, .slice A' n c'] w fun e w' => e = .returned (.bool true) ∧ Kept (fun _ => False) w w' := by
  have HS := Lib.hid (sameSg_eq w A A' n c c' G hn hn9 h h')
  clear hn h h'
  go_enter Tryd.func18, Tryd.ntmps18
  go_wp2_with (go_at_call 40; refine HS.out.mono ?_; rintro e w9 ⟨rfl, hk⟩; have HK9 := Lib.hid hk; clear hk)
  go_ret
  exact ⟨rfl, HK9.out⟩
end Go.Proofs.YtefpigakhhfcaaaDoor
end

/-! courantlaw21.awake; a log opened on files that have none of its name. -/
section
set_option linter.unusedVariables false
set_option linter.unusedSimpArgs false
namespace Go.Proofs.YtefpigakhhfcaaaDoor
open Go.RowKit

theorem LG.foot_lt {w : World} {T F M : Nat} {nm : ByteArray} {ps : List PF} {clock : Nat} {lim arm : Int} {dn dead : Bool} {v : Value} {ms : List PM} (h : LG w T F M nm ps clock lim arm dn v ms dead) : ∀ k, LFoot T F M ps v ms k → k < w.heap.size := fun k e => by
  rcases e with rfl | e | e | ⟨p, hp, e⟩
  · exact h.lb.lt
  · exact h.f.lt k e
  · exact own_ltH h.row k e
  · exact own_ltH (h.rr p hp) k e
/-- What Open wants where nothing lies. -/
theorem openL_none {ps : List PF} {nm : ByteArray} (hd : ∀ u, u < 18446744073709551616 → lk ps (fileB nm u) = none) (hnm : nm.size ≤ 82) (hf : fullB nm = true) (hn : ps.length ≤ 100000) (hs : ∀ p ∈ ps, p.name.size ≤ 1000000) : OpenLPre ps nm [] [] 0 :=
  ⟨trivial, fun u hu => by rw [hd u hu]; rfl, (fun a q e => by simp at e), (fun p hp => by cases hp), (fun p hp => by cases hp), by simp, by simp [nxtP], hnm, hf, hn, hs⟩
/-- A log that was just opened, nothing lying there. -/
def Open0 (w : World) (F M : Nat) (nm : ByteArray) (ps : List PF) (lim : Int) (e : Ending) (w' : World) : Prop :=
  ∃ T v ps' c', e = .returned (.tuple #[.pointer (some ⟨T, 0, none⟩), .int .i64 0]) ∧ w.heap.size ≤ T ∧ LS w' T F M nm ps' c' lim 0 false v [] false 0 0 ∧ (∀ k, LFoot T F M ps' v [] k → k ∈ foot F M ps ∨ w.heap.size ≤ k) ∧ Kept (fun k => k ∈ foot F M ps) w w' ∧ (∀ s, (∀ u, s ≠ fileB nm u) → lk ps' s = lk ps s) ∧ usedL ps' ≤ usedL ps
theorem slOpen_0 {w : World} {F M : Nat} {nm : ByteArray} {ps : List PF} {clock : Nat} {lim : Int} (h : FilesAt w F M ps clock lim 0 false) (hp : OpenLPre ps nm [] [] 0) :
    Calls Tryd.prog 7 #[.pointer (some ⟨F, 0, none⟩), .string nm] w (Open0 w F M nm ps lim) := by
  refine (slOpen_any w F M nm ps clock lim 0 [] [] 0 h hp).mono ?_
  rintro e w' (⟨T, v, ms, ps', c', arm', rfl, hT, hl, hm, hft, hk, hld, ho, ha, hu⟩ | ⟨ps', c', rfl, ha, -⟩)
  · have ha0 := ha rfl
    subst ha0
    have hm0 : ms = [] := by
      have := congrArg List.length hm
      rw [prts, List.length_map] at this
      exact List.eq_nil_of_length_eq_zero this
    subst hm0
    exact ⟨T, v, ps', c', rfl, hT, ⟨hl, hld, Sml.nil⟩, hft, hk, ho, hu⟩
  · cases ha
section
variable {w : World} {T F M : Nat} {nm : ByteArray} {ps : List PF} {clock : Nat} {lim arm : Int} {dn dead : Bool} {v : Value} {ms : List PM}
theorem slNext_any (h : LB w T F nm v dead) (hr : RowM w v ms) (hl : ms.length ≤ 1000000) (h64 : nxtP (prts ms) < 18446744073709551616) : Calls Tryd.prog 15 #[.pointer (some ⟨T, 0, none⟩)] w fun e w' => e = .returned (.int .u64 ((nxtP (prts ms) : Nat) : Int)) ∧ Kept (fun _ => False) w w' := by
  rcases List.eq_nil_or_concat ms with rfl | ⟨a, q, rfl⟩
  · obtain ⟨A, c, rfl⟩ := hr.nil
    refine (slNext_none w T F nm A c dead h).mono ?_
    rintro e w' ⟨rfl, rfl⟩
    exact ⟨rfl, Kept.refl _ _⟩
  · rw [List.concat_eq_append] at *
    obtain ⟨G, c, rfl, -, hc, -, -, hcell⟩ := hr.form (by simp)
    rw [List.length_append, List.length_singleton] at h hc hl
    obtain ⟨x0, x1, -⟩ := hcell a.length q (by simp)
    have e : nxtP (prts (a ++ [q])) = q.first + q.rs.length := by rw [prts_snoc, nxtP_snoc]; simp [endP, PM.prt]
    rw [e] at h64 ⊢
    refine (slNext_some w T F nm G a.length c q.first q.rs.length q.c q.A dead h (by omega) hc x0 x1 h64).mono ?_
    rintro e w' ⟨rfl, m, rfl⟩
    exact ⟨rfl, (Kept.refl _ _).drewN _⟩
theorem slFirst_any (h : LB w T F nm v dead) (hr : RowM w v ms) : Calls Tryd.prog 19 #[.pointer (some ⟨T, 0, none⟩)] w fun e w' => e = .returned (.int .u64 ((fstP (prts ms) : Nat) : Int)) ∧ w' = w := by
  cases ms with
  | nil =>
    obtain ⟨A, c, rfl⟩ := hr.nil
    exact slFirst_none w T F nm A c dead h
  | cons q a =>
    obtain ⟨G, c, rfl, -, hc, -, -, hcell⟩ := hr.form (by simp)
    obtain ⟨x0, -, -⟩ := hcell 0 q rfl
    rw [Nat.zero_mul] at x0
    exact slFirst_some w T F nm G _ c q.first dead h (by simp) x0
end
theorem nmL_full : fullB ⟨#[97]⟩ = true := by kernel_rfl
theorem put_two : logPut [(0, [[120]])] [121] = [(0, [[120], [121]])] := by
  rw [show [((0 : Nat), [([120] : List UInt8)])] = [] ++ [(0, [[120]])] from rfl, logPut_snoc, if_neg (by rw [szP_eq]; decide)]; rfl
theorem bound_1000 : boundI 1000 = 1000 := by decide
/-- A record of one byte, in a block of its own, on a small log; what is behind. -/
def LApp1 (w0 w : World) (T F M : Nat) (nm : ByteArray) (lim : Int) (N n : Nat) (G : List Prt) (u : Nat) (e : Ending) (w' : World) : Prop :=
  e = .returned (.tuple #[.int .u64 (n : Nat), .int .i64 0]) ∧ ∃ ps' c' v' ms' sf', LS w' T F M nm ps' c' lim 0 false v' ms' false sf' (N + 1) ∧ prts ms' = G ∧ (∀ k, LFoot T F M ps' v' ms' k → w0.heap.size ≤ k) ∧ Kept (fun _ => False) w0 w' ∧ usedL ps' ≤ u
theorem slAppend_1 {w0 w : World} {T F M : Nat} {nm : ByteArray} {ps : List PF} {clock : Nat} {lim : Int} {v : Value} {ms : List PM} {sf N b u : Nat} {x : UInt8} {G : List Prt} {mk : Nat × Nat} (h : LS w T F M nm ps clock lim 0 false v ms false sf N) (hN : N ≤ 10000) (hnm : nm.size ≤ 82) (hf : fullB nm = true)
    (hfo : ∀ k, LFoot T F M ps v ms k → w0.heap.size ≤ k) (hk : Kept (fun _ => False) w0 w) (hu : usedL ps ≤ u) (hlim : ((u + 17 : Nat) : Int) ≤ lim) (hu9 : u ≤ 4000000) (hb : w.heap[b]? = some (.cells #[.int .u8 x.toNat] 5 mk)) (hbn : ¬ LFoot T F M ps v ms b) (hG : logPut (prts ms) [x] = G) {n : Nat} (hn : nxtP (prts ms) = n) :
    Calls Tryd.prog 10 #[.pointer (some ⟨T, 0, none⟩), .slice (some ⟨b, 0, none⟩) 1 1] w (LApp1 w0 w T F M nm lim N n G (u + 17)) := by
  have hx : ∀ W, Kept (LFoot T F M ps v ms) w W → Bs W (some ⟨b, 0, none⟩) [x] := fun W hW => by
    have hc := hW.heap hb hbn
    refine ⟨fun e => (by cases e), fun ad e j y hy => ?_⟩
    injection e with e
    subst e
    cases j with
    | zero => simp at hy; subst hy; simp [Addr.add, World.cell?, hc, bv]
    | succ j => simp at hy
  refine (slAppend_0 (A := some ⟨b, 0, none⟩) (n := 1) (c := 1) (xs := [x]) h hN hnm hf (by simp; omega) (by simp; omega) hx rfl (fun e => by cases e) (by simp)).mono ?_
  rintro e w' ⟨ps', c', v', ms', sf', rfl, hl, hp, hm, -, -, hu'⟩
  refine ⟨by rw [hn], ps', c', v', ms', sf', hl, by rw [hp, hG], fun k hk2 => ?_, hk.trans hm.kept fun i hi e => ?_, ?_⟩
  · rcases hm.feet k hk2 with e | e
    · exact hfo k e
    · exact Nat.le_trans hk.size e
  · have := hfo i e; omega
  · simp at hu'; omega
set_option maxRecDepth 100000 in
set_option maxHeartbeats 8000000 in
theorem awake21_any (w : World) : Calls Tryd.prog 9 #[] w fun e w' => e = .returned (.bool true) ∧ Kept (fun _ => False) w w' := by
  have HN := Lib.hid (new_any w 1000)
  have kc := fun (w : World) (C : Array Value) (n c : Nat) => Lib.run_convert_bytes_const (P := Tryd.prog) w 31 5 C n c Tryd.underlying31 Tryd.underlying5
  go_enter Tryd.func9, Tryd.ntmps9
  go_upto_region 4 with (first
    | (go_at_call 8; refine HN.out.mono ?_; rintro e w1 ⟨F, M, rfl, hF, hk, hF1, hM1⟩; have HF := Lib.hid hF; have HK1 := Lib.hid hk; have HF1 := Lib.hid hF1; have HM1 := Lib.hid hM1; clear hF hk hF1 hM1)
    | (go_at_call 7; refine (slOpen_0 (nm := ⟨#[97]⟩) HF.out (openL_none (fun u _ => rfl) (by decide) nmL_full (by simp) (by simp))).mono ?_; rintro e w2 ⟨T, v, ps2, c2, rfl, hT, hl, hft, hk, -, hu⟩; have HT := Lib.hid hT; have HL2 := Lib.hid hl; have HFt := Lib.hid hft; have HK2 := Lib.hid hk; have Hu := Lib.hid hu; clear hT hl hft hk hu))
  have hfo2 : ∀ k, LFoot T F M ps2 v [] k → w.heap.size ≤ k := fun k e => by
    have h1 := HK1.out.size
    rcases HFt.out k e with e | e
    · have h2 := HF1.out
      have h3 := HM1.out
      have : k = F ∨ k = M := by simpa [foot] using e
      omega
    · omega
  have hkw2 : Kept (fun _ => False) w w2 := HK1.out.trans HK2.out fun i hi e => by
    have h2 := HF1.out
    have h3 := HM1.out
    have : i = F ∨ i = M := by simpa [foot] using e
    omega
  obtain ⟨b, hb⟩ : ∃ b, b = w2.heap.size := ⟨_, rfl⟩
  obtain ⟨W3, hW3⟩ : ∃ W3, W3 = w2.alloc (.cells #[.int .u8 120] 5 (1, 2)) := ⟨_, rfl⟩
  have hk3 : Kept (fun _ => False) w2 W3 := by rw [hW3]; exact (Kept.refl _ w2).alloc _
  have hu0 : usedL ps2 ≤ 0 := Hu.out
  have HA := Lib.hid (slAppend_1 (w0 := w) (b := b) (u := 0) (x := 120) (G := [(0, [[120]])]) (n := 0) (HL2.out.stay hk3) (by omega) (by decide) nmL_full hfo2 (hkw2.trans' hk3) hu0 (by rw [bound_1000]; decide) (by omega) (by rw [hW3, hb]; exact heap_alloc_new w2 _) (fun e => by have := HL2.out.lg.foot_lt b e; omega) rfl rfl)
  clear hfo2 hkw2 hk3 hu0
  go_upto_region 5 with (go_at_call 10; rw [← hW3, ← hb]; refine HA.out.mono ?_; rintro e w4 ⟨rfl, ps4, c4, v4, ms4, sf4, hl4, hp4, hfo4, hkw4, hu4⟩; have HL4 := Lib.hid hl4; have HP4 := Lib.hid hp4; have HFo4 := Lib.hid hfo4; have HKw4 := Lib.hid hkw4; have HU4 := Lib.hid hu4; clear hl4 hp4 hfo4 hkw4 hu4)
  obtain ⟨b2, hb2⟩ : ∃ b2, b2 = w4.heap.size := ⟨_, rfl⟩
  obtain ⟨W5, hW5⟩ : ∃ W5, W5 = w4.alloc (.cells #[.int .u8 121] 5 (1, 2)) := ⟨_, rfl⟩
  have hk5 : Kept (fun _ => False) w4 W5 := by rw [hW5]; exact (Kept.refl _ w4).alloc _
  have HA2 := Lib.hid (slAppend_1 (w0 := w) (b := b2) (u := 17) (x := 121) (G := [(0, [[120], [121]])]) (n := 1) (HL4.out.stay hk5) (by omega) (by decide) nmL_full HFo4.out (HKw4.out.trans' hk5) HU4.out (by rw [bound_1000]; decide) (by omega) (by rw [hW5, hb2]; exact heap_alloc_new w4 _) (fun e => by have := HL4.out.lg.foot_lt b2 e; omega) (by rw [HP4.out]; exact put_two) (by rw [HP4.out]; rfl))
  clear hk5
  go_upto_region 6 with (go_at_call 10; rw [← hW5, ← hb2]; refine HA2.out.mono ?_; rintro e w6 ⟨rfl, ps6, c6, v6, ms6, sf6, hl6, hp6, hfo6, hkw6, hu6⟩; have HL6 := Lib.hid hl6; have HP6 := Lib.hid hp6; have HKw6 := Lib.hid hkw6; clear hl6 hp6 hfo6 hkw6 hu6)
  have HNx : Hid (Calls Tryd.prog 15 #[.pointer (some ⟨T, 0, none⟩)] w6 fun e w' => e = .returned (.int .u64 2) ∧ Kept (fun _ => False) w6 w') := Lib.hid (by
    have := slNext_any HL6.out.lg.lb HL6.out.lg.row (by have := HL6.out.sm.few; rw [prts, List.length_map] at this; omega) (by rw [HP6.out]; decide)
    rw [HP6.out] at this
    exact this)
  go_wp2_with (refine HNx.out.mono ?_; rintro e w7 ⟨rfl, hk7⟩; have HK7 := Lib.hid hk7; clear hk7)
  go_ret
  exact ⟨rfl, HKw6.out.trans' HK7.out⟩
end Go.Proofs.YtefpigakhhfcaaaDoor
end
