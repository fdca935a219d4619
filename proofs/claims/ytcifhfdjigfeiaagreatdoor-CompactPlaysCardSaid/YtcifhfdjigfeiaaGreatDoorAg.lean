import Derived.Test.YtcifhfdjigfeiaaGreatDoorAf
/-! courantlaw23.CompactPlays, walked. -/
section
set_option linter.unusedVariables false
set_option linter.unusedSimpArgs false
namespace Go.Proofs.YtcifhfdjigfeiaaGreatDoor
open Go.RowKit

theorem al_size (w : World) (o : Obj) : (w.alloc o).heap.size = w.heap.size + 1 := by unfold World.alloc; exact Array.size_push _
theorem bound20P : boundI 1048576 = 1048576 := by decide
theorem kind_cases (k : Int) : k = 2 ∨ k = 3 ∨ k = 4 ∨ k = 5 ∨ k = 1 ∨ (¬ k = 2 ∧ ¬ k = 3 ∧ ¬ k = 4 ∧ ¬ k = 5 ∧ ¬ k = 1) := by omega
def OpB (W : World) (D : Nat) (k N : Int) (A : Option Addr) (n c : Nat) (Ak : Option Addr) (lk ck : Nat) : Prop := W.heap[D]? = some (.cells #[.int .i64 k, .int .i64 N, .slice A n c, .slice Ak lk ck] 45)
theorem OpB.cells {W : World} {D : Nat} {k N : Int} {A : Option Addr} {n c : Nat} {Ak : Option Addr} {lk ck : Nat} (h : OpB W D k N A n c Ak lk ck) : W.cell? ⟨D, 0, none⟩ = some (.int .i64 k) ∧ W.cell? ⟨D, 1, none⟩ = some (.int .i64 N) ∧ W.cell? ⟨D, 2, none⟩ = some (.slice A n c) ∧ W.cell? ⟨D, 3, none⟩ = some (.slice Ak lk ck) := by
  unfold OpB at h
  refine ⟨?_, ?_, ?_, ?_⟩ <;> simp [World.cell?, h]
/-- The ops that came in. -/
structure OpC4 (w : World) (ad : Addr) (k N : Int) (A : Option Addr) (n c : Nat) (Ak : Option Addr) (lk ck : Nat) : Prop where
  c0 : w.cell? ad = some (.int .i64 k)
  c1 : w.cell? ⟨ad.block, ad.off + 1, none⟩ = some (.int .i64 N)
  c2 : w.cell? ⟨ad.block, ad.off + 2, none⟩ = some (.slice A n c)
  c3 : w.cell? ⟨ad.block, ad.off + 3, none⟩ = some (.slice Ak lk ck)
structure OpOk4 (w : World) (N : Int) (A : Option Addr) (n : Nat) (qs : List PV) (Ak : Option Addr) (lk : Nat) : Prop where
  nb : N ≤ 9223372036854775807
  l : n = qs.length
  l9 : n ≤ 140737488355328
  at_ : PsAt w A qs
  sz : ∀ q ∈ qs, q.Sz
  k : ∀ j, j < lk → ∃ ad z, Ak = some ad ∧ w.cell? (ad.add j) = some (.int .i64 z)
def OpsAt4 (w : World) (A : Option Addr) (n : Nat) : Prop := ∀ j, j < n → ∃ ad k N A2 n2 c2 qs Ak lk ck, A = some ad ∧ OpC4 w (ad.add (j * 4)) k N A2 n2 c2 Ak lk ck ∧ OpOk4 w N A2 n2 qs Ak lk
theorem LS.kw {w0 W : World} {fb sb db ub mb lb F M T : Nat} {dw rm : Bool} {i : Nat} (h : LS w0 W fb sb db ub mb lb F M T dw rm i) : Kept (fun _ => False) w0 W := by
  obtain ⟨ps, clock, lim, arm, dn, un, ms, hs, parts, t, st, h1, -⟩ := h.ex
  exact h1.kept
set_option maxRecDepth 100000 in
set_option maxHeartbeats 8000000 in
theorem plays_any (A : Option Addr) (n c : Nat) (w : World) (h : OpsAt4 w A n) :
    Calls Tryz.prog 3 #[.slice A n c] w fun e w' => e = .returned (.bool true) ∧ Kept (fun _ => False) w w' := by
  have HOps := Lib.hid h
  have HN := Lib.hid (new_any w 1048576)
  clear h
  go_enter Tryz.func3, Tryz.ntmps3
  go_upto_region 2 with (go_at_call 4; refine HN.out.mono ?_; rintro e w1 ⟨F, M, rfl, hF, hk, hF1, hM1⟩; rw [bound20P] at hF; have HF := Lib.hid hF; have HK1 := Lib.hid hk; have HFs := Lib.hid hF1; have HMs := Lib.hid hM1; clear hF hk hF1 hM1)
  obtain ⟨W1, hW1⟩ : ∃ W1, W1 = w1.alloc (.cells #[.pointer (some ⟨F, 0, none⟩)] 23) := ⟨_, rfl⟩
  obtain ⟨fb, hfb⟩ : ∃ fb, fb = w1.heap.size := ⟨_, rfl⟩
  have HBf : Hid (Boxed W1 fb 23 (.pointer (some ⟨F, 0, none⟩))) := Lib.hid (by rw [hW1, hfb]; exact Boxed.new _ _ _)
  have HKa : Hid (Kept (fun _ => False) w1 W1) := Lib.hid (by rw [hW1]; exact (Kept.refl _ _).alloc _)
  have Hfb := Lib.hid hfb
  rw [← hW1, ← hfb]
  clear hW1 hfb
  have f1 := HBf.out.cell
  have HOn := Lib.hid (open_new W1 F M [] 0 1048576 0 nAb (by decide) nAb_full (HF.out.kept HKa.out (by simp)) (by simp) (by simp))
  go_upto_region 3 with (go_at_call 5; refine HOn.out.mono ?_; rintro e w2 ⟨T, rfl, hT, hsb, hk2⟩; have HT := Lib.hid hT; have HSB := Lib.hid hsb; have HK2 := Lib.hid hk2; clear hT hsb hk2)
  clear f1 HOn
  obtain ⟨W2, hW2⟩ : ∃ W2, W2 = w2.alloc (.cells #[.pointer (some ⟨T, 0, none⟩)] 25) := ⟨_, rfl⟩
  obtain ⟨sb, hs2⟩ : ∃ sb, sb = w2.heap.size := ⟨_, rfl⟩
  have HBs : Hid (Boxed W2 sb 25 (.pointer (some ⟨T, 0, none⟩))) := Lib.hid (by rw [hW2, hs2]; exact Boxed.new _ _ _)
  have HKb : Hid (Kept (fun _ => False) w2 W2) := Lib.hid (by rw [hW2]; exact (Kept.refl _ _).alloc _)
  have Hsb := Lib.hid hs2
  rw [← hW2, ← hs2]
  clear hW2 hs2
  have s1 := HBs.out.cell
  have HX : Hid (∀ W, Kept (fun _ => False) W2 W → W.cell? ⟨sb, 0, none⟩ = some (.pointer (some ⟨T, 0, none⟩))) := Lib.hid fun W hW => Boxed.cell (hW.heap HBs.out (by simp))
  go_upto_region 5 with (go_at_call 6; refine (awake23_any _).mono ?_; rintro e w3 ⟨rfl, hk⟩; have HK3 := Lib.hid hk; have s3 := HX.out _ hk; clear hk)
  go_upto_region 8 with fail
  obtain ⟨lb, hlb⟩ : ∃ lb, lb = w3.heap.size := ⟨_, rfl⟩
  obtain ⟨mb, hmb⟩ : ∃ mb, mb = lb + 1 := ⟨_, rfl⟩
  obtain ⟨ub, hub⟩ : ∃ ub, ub = mb + 1 := ⟨_, rfl⟩
  obtain ⟨db, hdb⟩ : ∃ db, db = ub + 1 := ⟨_, rfl⟩
  obtain ⟨W4, hW4⟩ : ∃ W4, W4 = (((w3.alloc (.cells #[.slice none 0 0] 30)).alloc (.cells #[.slice none 0 0] 30)).alloc (.cells #[.bool false] 4)).alloc (.cells #[.bool false] 4) := ⟨_, rfl⟩
  have HL : Hid (LS w W4 fb sb db ub mb lb F M T false true 0) := Lib.hid (by
    have hk34 : Kept (fun _ => False) w3 W4 := by rw [hW4]; exact (((((Kept.refl _ w3).alloc _).alloc _).alloc _).alloc _)
    have b1 : Boxed W4 lb 30 (.slice none 0 0) := by rw [hW4, hlb]; exact (((Boxed.new w3 _ _).alloc _).alloc _).alloc _
    have b2 : Boxed W4 mb 30 (.slice none 0 0) := by
      have := (((Boxed.new (w3.alloc (.cells #[.slice none 0 0] 30)) 30 (.slice none 0 0)).alloc (.cells #[.bool false] 4)).alloc (.cells #[.bool false] 4))
      rw [al_size, ← hlb, ← hmb] at this; rw [hW4]; exact this
    have b3 : Boxed W4 ub 4 (.bool false) := by
      have := ((Boxed.new ((w3.alloc (.cells #[.slice none 0 0] 30)).alloc (.cells #[.slice none 0 0] 30)) 4 (.bool false)).alloc (.cells #[.bool false] 4))
      rw [al_size, al_size, ← hlb, ← hmb, ← hub] at this; rw [hW4]; exact this
    have b4 : Boxed W4 db 4 (.bool false) := by
      have := (Boxed.new (((w3.alloc (.cells #[.slice none 0 0] 30)).alloc (.cells #[.slice none 0 0] 30)).alloc (.cells #[.bool false] 4)) 4 (.bool false))
      rw [al_size, al_size, al_size, ← hlb, ← hmb, ← hub, ← hdb] at this; rw [hW4]; exact this
    have k12 : Kept (fun _ => False) w1 w2 := HKa.out.trans' HK2.out
    have k24 : Kept (fun _ => False) w2 W4 := (HKb.out.trans' HK3.out).trans' hk34
    have k14 : Kept (fun _ => False) w1 W4 := k12.trans' k24
    have hsb4 : SB W4 T F nAb (.slice none 0 0) 0 0 false := HSB.out.kept' k24
    have hTl : T < w2.heap.size := (Array.getElem?_eq_some_iff.1 (show w2.heap[T]? = _ from HSB.out)).1
    have hf4 : FilesAt W4 F M [] 0 1048576 0 false := HF.out.kept k14 (by simp)
    have hft : ∀ k ∈ foot F M [], k = F ∨ k = M := fun k hk => by simpa [foot] using hk
    have hFl := HF.out.lt F (by simp [foot])
    have hMl := HF.out.lt M (by simp [foot])
    have e1 := Hfb.out
    have e2 := Hsb.out
    have e3 := HBf.out.lt
    have e4 := HT.out
    have e5 := HBs.out.lt
    have e6 := HK3.out.size
    have e7 := HFs.out
    have e8 := HMs.out
    have e9 := HK1.out.size
    have bxs : BxZ W4 T F M [] [fb, sb, db, ub, mb, lb] := fun b hb => by
      have l1 := b1.lt; have l2 := b2.lt; have l3 := b3.lt; have l4 := b4.lt
      simp only [List.mem_cons, List.not_mem_nil, or_false] at hb
      refine ⟨?_, fun hm => ?_, ?_⟩
      · rcases hb with h | h | h | h | h | h <;> omega
      · have := hft b hm
        rcases hb with h | h | h | h | h | h <;> omega
      · rcases hb with h | h | h | h | h | h <;> omega
    have hC : CS W4 T F M nAb [] 0 1048576 0 false (.slice none 0 0) [] 0 0 false := CS.fresh hf4 hsb4 fun hm => by have := hft T hm; omega
    refine ⟨[], 0, 1048576, 0, false, false, [], [], [], [], true, ⟨hf4, ⟨fun s _ _ => rfl, .inl ⟨rfl, rfl, rfl⟩⟩, .inl rfl, Bd.zero, fun _ => ⟨rfl, rfl⟩, (HK2.out.trans' k24).heap HBf.out (by simp), (HK3.out.trans' hk34).heap HBs.out (by simp), b3, ⟨none, 0, b1, fun W' _ => PsAt.nil _ _⟩, ⟨none, 0, b2, fun W' _ => PsAt.nil _ _⟩, bxs, ?_, by omega, fun k hk => by have := hft k hk; omega, fun b hb => ?_, HK1.out.trans' k14, by simp⟩, b4, fun _ => rfl, fun _ => ⟨rfl, rfl, .inl ⟨rfl, rfl⟩, _, [], hC, rfl⟩, fun e => by cases e⟩
    · simp only [List.nodup_cons, List.mem_cons, List.not_mem_nil, or_false, not_or, not_false_eq_true, List.nodup_nil, and_true]
      omega
    · simp only [List.mem_cons, List.not_mem_nil, or_false] at hb
      rcases hb with h | h | h | h | h | h <;> omega)
  rw [← hW4, ← hlb, ← hmb, ← hub, ← hdb]
  clear hW4 hlb hmb hub hdb s1 s3 HX
  go_wp2_with fail
  go_loopw [10, 12, 13, 14, 15, 16, 17] (fun rv i _ _ _ _ _ wr => ∃ (rm dw : Bool) (T q : Nat), rv = .bool rm ∧ i = .int .i64 q ∧ q ≤ n ∧ q ≤ 50 ∧ Hid (LS w wr fb sb db ub mb lb F M T dw rm q)) (fun _ i _ _ _ _ _ _ => 50 - (intOf i).toNat)
  case atStart => exact ⟨true, false, T, 0, rfl, rfl, by omega, by omega, HL⟩
  case round =>
    obtain ⟨rm, dw, T, q, rfl, rfl, hq, hq5, hL⟩ := hrel
    by_cases hlt : q < n ∧ q < 50
    · obtain ⟨hlt1, hlt2⟩ := hlt
      have hq9 : (q : Int) < (n : Int) := by omega
      have hq7 : (q : Int) < 50 := by omega
      obtain ⟨ad, k, N, A2, n2, c2, qs, Ak, lk, ck, rfl, hc, ho⟩ := HOps.out q hlt1
      have c0 := hL.out.kw.cell hc.c0 (by simp)
      have c1 := hL.out.kw.cell hc.c1 (by simp)
      have c2' := hL.out.kw.cell hc.c2 (by simp)
      have c3 := hL.out.kw.cell hc.c3 (by simp)
      have HO := Lib.hid ho
      clear hc ho
      go_upto_region 12 with fail
      obtain ⟨W2, hW2⟩ : ∃ W2, W2 = wr.alloc (.cells #[.int .i64 k, .int .i64 N, .slice A2 n2 c2, .slice Ak lk ck] 45) := ⟨_, rfl⟩
      obtain ⟨D, hD⟩ : ∃ D, D = wr.heap.size := ⟨_, rfl⟩
      have HOB : Hid (OpB W2 D k N A2 n2 c2 Ak lk ck) := Lib.hid (by rw [hW2, hD]; exact heap_alloc_new wr _)
      have HKw : Hid (Kept (fun _ => False) wr W2) := Lib.hid (by rw [hW2]; exact (Kept.refl _ wr).alloc _)
      have HD := Lib.hid hD
      have HL2 := Lib.hid (hL.out.stay HKw.out)
      obtain ⟨d0, d1, d2, d3⟩ := HOB.out.cells
      rw [← hD, ← hW2]
      clear hW2 hD c0 c1 c2' c3
      have HDk : Hid (∀ W, Kept (fun k => k < wr.heap.size) W2 W → OpB W D k N A2 n2 c2 Ak lk ck) := Lib.hid fun W hW => hW.heap HOB.out (by have := HD.out; omega)
      obtain ⟨x1, x2, x3, x3f⟩ := HL2.out.cells
      rcases kind_cases k with rfl | rfl | rfl | rfl | rfl | ⟨g2, g3, g4, g5, g1⟩
      case inl =>
        as_aux_lemma =>
          have HA := Lib.hid (HL2.out.armed N HO.out.nb)
          go_upto_region 62 with (go_at_call 9; refine HA.out.mono ?_; rintro e W5 ⟨rfl, h5⟩; have HLe := Lib.hid (h5.mono (Nat.le_succ q)); clear h5)
          clear HA d0 d1 d2 d3 x1 x2 x3 x3f HL2 HOB HDk hL HO
          all_goals try cases dw
          all_goals
            obtain ⟨x1, x2, x3, x3f⟩ := HLe.out.cells
            first
              | (obtain ⟨Ac, cc, nc, k1, hck⟩ := HLe.out.check (by omega)
                 have HCk := Lib.hid hck
                 have HAe := Lib.hid (hck _ (Kept.refl (fun _ => False) _).drew).2
                 clear hck
                 go_region_law (first | (go_simp; go_at_call 12; refine HAe.out.mono ?_; rintro e w12 ⟨V, rfl, hk12, hc12⟩; have HK12 := Lib.hid hk12; have HEq := Lib.hid hc12; have k2 := (HCk.out w12 ((Kept.refl (fun _ => False) _).drew.trans' hk12)).1; clear hk12 hc12) | (go_simp; go_at_call 11; (with_reducible refine (HEq.out _ (by first | exact Kept.refl _ _ | exact (Kept.refl _ _).drew)).mono ?_); rintro e w13 ⟨rfl, hk13⟩; have HK13 := Lib.hid ((Kept.refl (fun _ => False) _).drew.trans' hk13); clear hk13))
                 all_goals
                   go_wp2_with fail
                   go_roundw
                   case rel => exact ⟨_, _, _, q + 1, rfl, by go_num, by omega, by omega, Lib.hid (HLe.out.stay HK13.out)⟩
                   case measure => simp [intOf]; omega)
              | (go_quiet (fail)
                 all_goals
                   go_wp2_with fail
                   go_roundw
                   case rel => exact ⟨_, _, _, q + 1, rfl, by go_num, by omega, by omega, Lib.hid (HLe.out.stay ((Kept.refl _ _).drewN _))⟩
                   case measure => simp [intOf]; omega)
      case inr.inl =>
        as_aux_lemma =>
          have HC := Lib.hid (hL.out.crashedB HKw.out (c := ck) HO.out.k)
          go_upto_region 40 with (go_at_call 10; refine HC.out.mono ?_; rintro e W3 ⟨rfl, h3, hk3⟩; have HLC := Lib.hid h3; obtain ⟨-, y1, -, y3⟩ := (HDk.out W3 hk3).cells; clear h3 hk3)
          clear HC d0 d1 d2 d3 x1 x2 x3 x3f HL2 HOB HDk hL
          have HOp := Lib.hid (HLC.out.opened (by omega) N HO.out.nb (c3 := ck) HO.out.k)
          go_upto_region 62 with (go_at_call 7; refine HOp.out.mono ?_; rintro e W5 ⟨rfl, T5, h5⟩; have HLe := Lib.hid (h5.mono (Nat.le_succ q)); clear h5)
          clear y1 y3 HOp HLC HO
          all_goals try cases dw
          all_goals
            obtain ⟨x1, x2, x3, x3f⟩ := HLe.out.cells
            first
              | (obtain ⟨Ac, cc, nc, k1, hck⟩ := HLe.out.check (by omega)
                 have HCk := Lib.hid hck
                 have HAe := Lib.hid (hck _ (Kept.refl (fun _ => False) _).drew).2
                 clear hck
                 go_region_law (first | (go_simp; go_at_call 12; refine HAe.out.mono ?_; rintro e w12 ⟨V, rfl, hk12, hc12⟩; have HK12 := Lib.hid hk12; have HEq := Lib.hid hc12; have k2 := (HCk.out w12 ((Kept.refl (fun _ => False) _).drew.trans' hk12)).1; clear hk12 hc12) | (go_simp; go_at_call 11; (with_reducible refine (HEq.out _ (by first | exact Kept.refl _ _ | exact (Kept.refl _ _).drew)).mono ?_); rintro e w13 ⟨rfl, hk13⟩; have HK13 := Lib.hid ((Kept.refl (fun _ => False) _).drew.trans' hk13); clear hk13))
                 all_goals
                   go_wp2_with fail
                   go_roundw
                   case rel => exact ⟨_, _, _, q + 1, rfl, by go_num, by omega, by omega, Lib.hid (HLe.out.stay HK13.out)⟩
                   case measure => simp [intOf]; omega)
              | (go_quiet (fail)
                 all_goals
                   go_wp2_with fail
                   go_roundw
                   case rel => exact ⟨_, _, _, q + 1, rfl, by go_num, by omega, by omega, Lib.hid (HLe.out.stay ((Kept.refl _ _).drewN _))⟩
                   case measure => simp [intOf]; omega)
      case inr.inr.inl =>
        as_aux_lemma =>
          have HOp := Lib.hid (HL2.out.lc.opened (by omega) N HO.out.nb (c3 := ck) HO.out.k)
          go_upto_region 62 with (go_at_call 7; refine HOp.out.mono ?_; rintro e W5 ⟨rfl, T5, h5⟩; have HLe := Lib.hid (h5.mono (Nat.le_succ q)); clear h5)
          clear HOp d0 d1 d2 d3 x1 x2 x3 x3f HL2 HOB HDk hL HO
          all_goals try cases dw
          all_goals
            obtain ⟨x1, x2, x3, x3f⟩ := HLe.out.cells
            first
              | (obtain ⟨Ac, cc, nc, k1, hck⟩ := HLe.out.check (by omega)
                 have HCk := Lib.hid hck
                 have HAe := Lib.hid (hck _ (Kept.refl (fun _ => False) _).drew).2
                 clear hck
                 go_region_law (first | (go_simp; go_at_call 12; refine HAe.out.mono ?_; rintro e w12 ⟨V, rfl, hk12, hc12⟩; have HK12 := Lib.hid hk12; have HEq := Lib.hid hc12; have k2 := (HCk.out w12 ((Kept.refl (fun _ => False) _).drew.trans' hk12)).1; clear hk12 hc12) | (go_simp; go_at_call 11; (with_reducible refine (HEq.out _ (by first | exact Kept.refl _ _ | exact (Kept.refl _ _).drew)).mono ?_); rintro e w13 ⟨rfl, hk13⟩; have HK13 := Lib.hid ((Kept.refl (fun _ => False) _).drew.trans' hk13); clear hk13))
                 all_goals
                   go_wp2_with fail
                   go_roundw
                   case rel => exact ⟨_, _, _, q + 1, rfl, by go_num, by omega, by omega, Lib.hid (HLe.out.stay HK13.out)⟩
                   case measure => simp [intOf]; omega)
              | (go_quiet (fail)
                 all_goals
                   go_wp2_with fail
                   go_roundw
                   case rel => exact ⟨_, _, _, q + 1, rfl, by go_num, by omega, by omega, Lib.hid (HLe.out.stay ((Kept.refl _ _).drewN _))⟩
                   case measure => simp [intOf]; omega)
      case inr.inr.inr.inl =>
        as_aux_lemma =>
          have HA := Lib.hid (HL2.out.limited N)
          go_upto_region 62 with (go_at_call 16; refine HA.out.mono ?_; rintro e W5 ⟨rfl, h5⟩; have HLe := Lib.hid (h5.mono (Nat.le_succ q)); clear h5)
          clear HA d0 d1 d2 d3 x1 x2 x3 x3f HL2 HOB HDk hL HO
          all_goals try cases dw
          all_goals
            obtain ⟨x1, x2, x3, x3f⟩ := HLe.out.cells
            first
              | (obtain ⟨Ac, cc, nc, k1, hck⟩ := HLe.out.check (by omega)
                 have HCk := Lib.hid hck
                 have HAe := Lib.hid (hck _ (Kept.refl (fun _ => False) _).drew).2
                 clear hck
                 go_region_law (first | (go_simp; go_at_call 12; refine HAe.out.mono ?_; rintro e w12 ⟨V, rfl, hk12, hc12⟩; have HK12 := Lib.hid hk12; have HEq := Lib.hid hc12; have k2 := (HCk.out w12 ((Kept.refl (fun _ => False) _).drew.trans' hk12)).1; clear hk12 hc12) | (go_simp; go_at_call 11; (with_reducible refine (HEq.out _ (by first | exact Kept.refl _ _ | exact (Kept.refl _ _).drew)).mono ?_); rintro e w13 ⟨rfl, hk13⟩; have HK13 := Lib.hid ((Kept.refl (fun _ => False) _).drew.trans' hk13); clear hk13))
                 all_goals
                   go_wp2_with fail
                   go_roundw
                   case rel => exact ⟨_, _, _, q + 1, rfl, by go_num, by omega, by omega, Lib.hid (HLe.out.stay HK13.out)⟩
                   case measure => simp [intOf]; omega)
              | (go_quiet (fail)
                 all_goals
                   go_wp2_with fail
                   go_roundw
                   case rel => exact ⟨_, _, _, q + 1, rfl, by go_num, by omega, by omega, Lib.hid (HLe.out.stay ((Kept.refl _ _).drewN _))⟩
                   case measure => simp [intOf]; omega)
      case inr.inr.inr.inr.inl =>
        as_aux_lemma =>
          have HCp := Lib.hid (HL2.out.compacted (by omega))
          go_upto_region 50 with (go_at_call 17; refine HCp.out.mono ?_; rintro e W5 ⟨er, rfl, h5⟩; have HCp5 := Lib.hid h5; clear h5)
          clear HCp d0 d1 d2 d3 x1 x2 x3 x3f HL2 HOB HDk hL HO
          rcases HCp5.out with ⟨rfl, rfl, h6⟩ | ⟨rfl, rfl, h6⟩ | ⟨rfl, rfl, rfl, h6⟩ | ⟨rfl, rfl, lim6, arm6, y3, y3f, h6, hfb⟩
          all_goals
            clear HCp5
            have HLe := Lib.hid h6
            obtain ⟨y8, -, y9, -⟩ := h6.cells
            clear h6
            go_upto_region 62 with (go_at_call 18; refine (down_any _ F M lim6 arm6 true hfb).mono ?_; rintro e W6 ⟨rfl, rfl⟩)
          all_goals try cases dw
          all_goals
            obtain ⟨x1, x2, x3, x3f⟩ := HLe.out.cells
            first
              | (obtain ⟨Ac, cc, nc, k1, hck⟩ := HLe.out.check (by omega)
                 have HCk := Lib.hid hck
                 have HAe := Lib.hid (hck _ (Kept.refl (fun _ => False) _).drew).2
                 clear hck
                 go_region_law (first | (go_simp; go_at_call 12; refine HAe.out.mono ?_; rintro e w12 ⟨V, rfl, hk12, hc12⟩; have HK12 := Lib.hid hk12; have HEq := Lib.hid hc12; have k2 := (HCk.out w12 ((Kept.refl (fun _ => False) _).drew.trans' hk12)).1; clear hk12 hc12) | (go_simp; go_at_call 11; (with_reducible refine (HEq.out _ (by first | exact Kept.refl _ _ | exact (Kept.refl _ _).drew)).mono ?_); rintro e w13 ⟨rfl, hk13⟩; have HK13 := Lib.hid ((Kept.refl (fun _ => False) _).drew.trans' hk13); clear hk13))
                 all_goals
                   go_wp2_with fail
                   go_roundw
                   case rel => exact ⟨_, _, _, q + 1, rfl, by go_num, by omega, by omega, Lib.hid (HLe.out.stay HK13.out)⟩
                   case measure => simp [intOf]; omega)
              | (go_quiet (fail)
                 all_goals
                   go_wp2_with fail
                   go_roundw
                   case rel => exact ⟨_, _, _, q + 1, rfl, by go_num, by omega, by omega, Lib.hid (HLe.out.stay ((Kept.refl _ _).drewN _))⟩
                   case measure => simp [intOf]; omega)
      case inr.inr.inr.inr.inr =>
        as_aux_lemma =>
          have HFw := Lib.hid (few_any W2 A2 n2 c2 qs HO.out.l HO.out.l9 (HO.out.at_.kept HL2.out.kw) HO.out.sz)
          obtain ⟨r, hr⟩ : ∃ r, r = fewP qs := ⟨_, rfl⟩
          rw [← hr] at HFw
          have Hr := Lib.hid hr
          obtain ⟨Al, cl, nl, l0, hl0⟩ := HL2.out.lbc
          have HLb := Lib.hid hl0
          clear hr hl0
          by_cases hfew : r = true ∧ ¬ (200 : Int) < (nl : Int)
          rotate_left
          · have HN := Lib.hid hfew
            cases r
            · go_upto_region 14 with (go_at_call 19; refine HFw.out.mono ?_; rintro e W3 ⟨rfl, mm, hw3⟩; have HK3 : Hid (Kept (fun _ => False) W2 W3) := Lib.hid (by rw [hw3]; exact (Kept.refl _ _).drewN _); have l3 := HLb.out W3 HK3.out; clear hw3)
              go_wp2_with fail
              go_roundw
              case rel => exact ⟨rm, dw, T, q + 1, rfl, by go_num, by omega, by omega, Lib.hid ((HL2.out.stay HK3.out).mono (Nat.le_succ q))⟩
              case measure => simp [intOf]; omega
            · have h200 : (200 : Int) < (nl : Int) := by
                have h1 := HN.out
                by_cases h2 : (200 : Int) < (nl : Int)
                · exact h2
                · exact absurd ⟨rfl, h2⟩ h1
              go_upto_region 14 with (go_at_call 19; refine HFw.out.mono ?_; rintro e W3 ⟨rfl, mm, hw3⟩; have HK3 : Hid (Kept (fun _ => False) W2 W3) := Lib.hid (by rw [hw3]; exact (Kept.refl _ _).drewN _); have l3 := HLb.out W3 HK3.out; clear hw3)
              go_wp2_with fail
              go_roundw
              case rel => exact ⟨rm, dw, T, q + 1, rfl, by go_num, by omega, by omega, Lib.hid ((HL2.out.stay HK3.out).mono (Nat.le_succ q))⟩
              case measure => simp [intOf]; omega
          obtain ⟨rfl, h200⟩ := hfew
          go_upto_region 14 with (go_at_call 19; refine HFw.out.mono ?_; rintro e W3 ⟨rfl, mm, hw3⟩; have HK3 : Hid (Kept (fun _ => False) W2 W3) := Lib.hid (by rw [hw3]; exact (Kept.refl _ _).drewN _); have l3 := HLb.out W3 HK3.out; clear hw3)
          clear l3 l0 d0 d1 d2 d3 x1 x2 x3 x3f HFw HLb
          have HFs := Lib.hid (few_small Hr.out.symm)
          have hn50 : n2 < 50 := by rw [HO.out.l]; exact HFs.out.1
          have HBq : Hid (∀ p ∈ qs, p.b.length ≤ 1000000000) := Lib.hid fun p hp => by have := HFs.out.2.1 p hp; unfold wt at this; omega
          have HKd3 : Hid (Kept (fun k => k < wr.heap.size) W2 W3) := Lib.hid (HK3.out.mono fun _ _ e => e.elim)
          obtain ⟨-, -, e2, -⟩ := (HDk.out W3 HKd3.out).cells
          have HCp := Lib.hid (copyPairs_any W3 A2 n2 c2 qs HO.out.l (by omega) HBq.out (HO.out.at_.kept (HL2.out.kw.trans' HK3.out)))
          go_upto_region 15 with (go_at_call 20; refine HCp.out.mono ?_; rintro e W4 ⟨v4, u, rfl, ho4, hcu⟩; have HO4 := Lib.hid ho4; have Hcu := Lib.hid hcu; clear ho4 hcu)
          clear HCp e2
          have Hfu := Lib.hid ((fewP_core Hcu.out).trans Hr.out.symm)
          obtain ⟨A4, c4, hv4, hA4, hput⟩ := hL.out.put (HKw.out.trans' HK3.out) (by omega) HO4.out Hfu.out
          subst hv4
          have HPut := Lib.hid hput
          have HA4 := Lib.hid hA4
          have x5 := (HL2.out.stay (HK3.out.trans' HO4.out.kept)).cells.2.1
          clear hput hA4
          go_upto_region 16 with (go_at_call 21; refine HPut.out.mono ?_; rintro e W5 ⟨er, rfl, hk5, hp5⟩; have HK5 := Lib.hid hk5; have HP5 := Lib.hid hp5; clear hk5 hp5)
          clear x5 HPut
          have hs23 : wr.heap.size ≤ W3.heap.size := Nat.le_trans HKw.out.size HK3.out.size
          obtain ⟨A5, c5, e5, hpa, hsp⟩ := SpI.of HO4.out HK5.out fun k hk => Nat.lt_of_lt_of_le hk hs23
          simp only [Value.slice.injEq] at e5
          obtain ⟨rfl, -, rfl⟩ := e5
          have HPa := Lib.hid hpa
          have HSp := Lib.hid hsp
          have HKw5 := Lib.hid (HP5.out W5 (Kept.refl _ _)).kw
          have HOB5 := Lib.hid (HDk.out W5 ((HKd3.out.trans HO4.out.kept fun k _ e => e.elim).trans' HK5.out))
          obtain ⟨-, -, e2, -⟩ := HOB5.out.cells
          have HEq := Lib.hid (pairs_any W5 A4 A2 u.length n2 c4 c2 u qs rfl HO.out.l (by have := (few_small Hfu.out).1; omega) HPa.out (HO.out.at_.kept HKw5.out))
          rw [decide_eq_true Hcu.out] at HEq
          clear hpa hsp
          go_upto_region 18 with (go_at_call 11; refine HEq.out.mono ?_; rintro e W6 ⟨rfl, hk6⟩; have HK6 := Lib.hid hk6; clear hk6)
          clear HEq e2
          obtain ⟨lu, hlu⟩ : ∃ lu, lu = u.length := ⟨_, rfl⟩
          rw [← hlu]
          have Hlu := Lib.hid hlu
          clear hlu
          have hlu50 : lu < 50 := by rw [Hlu.out]; exact (few_small Hfu.out).1
          have HSp6 : Hid (SpI W3.heap.size W4.heap.size W6 A4 u) := Lib.hid (HSp.out.stay HK6.out)
          go_wp2_with fail
          go_loopw [17, 73] (fun _ t wx => ∃ j : Nat, t = .int .i64 j ∧ j ≤ lu ∧ Hid (SpI W3.heap.size W4.heap.size wx A4 u) ∧ Hid (Kept (fun k => W3.heap.size ≤ k ∧ k < W4.heap.size) W6 wx)) (fun _ t _ => lu - (intOf t).toNat)
          case' atStart => exact ⟨0, rfl, by omega, HSp6, Lib.hid (Kept.refl _ _)⟩
          obtain ⟨j, rfl, hj, hSp, hKj⟩ := hrel
          by_cases hjl : j < lu
          · have hj9 : (j : Int) < (lu : Int) := by omega
            have hju : j < u.length := by rw [← Hlu.out]; exact hjl
            obtain ⟨p, hp⟩ : ∃ p, u[j]? = some p := ⟨_, List.getElem?_eq_getElem hju⟩
            obtain ⟨ad4, rfl, hcell, -⟩ := hSp.out.cell j p hp
            have hpm := List.mem_of_getElem? hp
            have HSl := Lib.hid (hSp.out.spoil hpm (by have := (few_small Hfu.out).2.1 p hpm; unfold wt at this; omega))
            clear hp hpm hju
            go_wp2_with (go_at_call 22; refine HSl.out.mono ?_; rintro e W8 ⟨rfl, hs8, hk8⟩; have HS8 := Lib.hid hs8; have HK8 := Lib.hid hk8; clear hs8 hk8)
            go_roundw
            case rel => exact ⟨j + 1, by go_num, by omega, HS8, Lib.hid (hKj.out.trans' HK8.out)⟩
            case measure => simp [intOf]; omega
          have hj9 : ¬ (j : Int) < (lu : Int) := by omega
          have HLP := Lib.hid (HP5.out _ ((HK6.out.mono fun _ _ e => e.elim).trans' hKj.out))
          have HKwx := Lib.hid HLP.out.kw
          have HOBx : Hid (OpB wr D k N A2 n2 c2 Ak lk ck) := Lib.hid ((hKj.out).heap (HK6.out.heap HOB5.out (by simp)) (by have := (Array.getElem?_eq_some_iff.1 (show W2.heap[D]? = _ from HOB.out)).1; have := HK3.out.size; omega))
          obtain ⟨-, -, e2, -⟩ := HOBx.out.cells
          have Hmu : Hid (∀ L : List Core, putC L (u.map PV.core) = putC L (qs.map PV.core)) := Lib.hid fun L => by rw [Hcu.out]
          rcases HLP.out with ⟨rfl, rfl, h61⟩ | ⟨rfl, rfl, rfl, h62⟩ | ⟨rfl, rfl, h63⟩ | ⟨rfl, rfl, h64⟩
          all_goals first
            | (have HLe := Lib.hid (h61.mono (Nat.le_succ q))
               have y9 := h61.cells.2.2.1
               clear h61 e2
               go_upto_region 62 with fail)
            | (have HLe := Lib.hid (h62.mono (Nat.le_succ q))
               have y9 := h62.cells.2.2.1
               clear h62 e2
               go_upto_region 62 with fail)
            | skip
          case' neg.inr.inr.inl =>
            obtain ⟨A7, c7, ms7, z1, z2, z3, z4, z5, hfin⟩ := h63.done (by omega) Hfu.out
            have HFin := Lib.hid hfin
            have HRp := Lib.hid (refPut_any wr A7 A2 ms7.length c7 n2 c2 ms7 qs rfl HO.out.l (by omega) z4 HBq.out z2 (HO.out.at_.kept HKwx.out))
            clear hfin z2 z4 h63
            go_upto_region 62 with (go_at_call 23; refine HRp.out.mono ?_; rintro e W9 ⟨v9, q9, rfl, ho9, hc9⟩; obtain ⟨A9, c9, rfl⟩ := own_slice ho9.row; obtain ⟨⟨xx, r1⟩, r2, r3⟩ := HFin.out W9 _ q9 ho9 (hc9.trans (Hmu.out _).symm); have HLe := Lib.hid r3; clear ho9 hc9 r3)
          case' neg.inr.inr.inr =>
            obtain ⟨A7, c7, ms7, z1, z2, z3, z4, z5, hfin⟩ := h64.done (by omega) Hfu.out
            have HFin := Lib.hid hfin
            have HRp := Lib.hid (refPut_any wr A7 A2 ms7.length c7 n2 c2 ms7 qs rfl HO.out.l (by omega) z4 HBq.out z2 (HO.out.at_.kept HKwx.out))
            clear hfin z2 z4 h64
            go_upto_region 29 with (go_at_call 23; refine HRp.out.mono ?_; rintro e W9 ⟨v9, q9, rfl, ho9, hc9⟩; obtain ⟨A9, c9, rfl⟩ := own_slice ho9.row; obtain ⟨⟨xx, r1⟩, r2, ⟨xx3, r3⟩, r4, ⟨xx5, r5⟩, r6, r7, lim9, arm9, hfb9⟩ := HFin.out W9 _ q9 ho9 (hc9.trans (Hmu.out _).symm) _ _ _ rfl rfl rfl; have HLe := Lib.hid r7; have HFb := Lib.hid hfb9; clear ho9 hc9 r7 hfb9)
            clear r1 r2 r3 r4 r5 r6 z1 z5 e2
            obtain ⟨y8, -, y9, -⟩ := HLe.out.cells
            go_upto_region 62 with (go_at_call 18; refine (down_any _ F M lim9 arm9 true HFb.out).mono ?_; rintro e W10 ⟨rfl, rfl⟩)
          all_goals try cases dw
          all_goals
            obtain ⟨x1, x2, x3, x3f⟩ := HLe.out.cells
            first
              | (obtain ⟨Ac, cc, nc, k1, hck⟩ := HLe.out.check (by omega)
                 have HCk := Lib.hid hck
                 have HAe := Lib.hid (hck _ (Kept.refl (fun _ => False) _).drew).2
                 clear hck
                 go_region_law (first | (go_simp; go_at_call 12; refine HAe.out.mono ?_; rintro e w12 ⟨V, rfl, hk12, hc12⟩; have HK12 := Lib.hid hk12; have HEq := Lib.hid hc12; have k2 := (HCk.out w12 ((Kept.refl (fun _ => False) _).drew.trans' hk12)).1; clear hk12 hc12) | (go_simp; go_at_call 11; (with_reducible refine (HEq.out _ (by first | exact Kept.refl _ _ | exact (Kept.refl _ _).drew)).mono ?_); rintro e w13 ⟨rfl, hk13⟩; have HK13 := Lib.hid ((Kept.refl (fun _ => False) _).drew.trans' hk13); clear hk13))
                 all_goals
                   go_wp2_with fail
                   go_roundw
                   case rel => exact ⟨_, _, _, q + 1, rfl, by go_num, by omega, by omega, Lib.hid (HLe.out.stay HK13.out)⟩
                   case measure => simp [intOf]; omega)
              | (go_quiet (fail)
                 all_goals
                   go_wp2_with fail
                   go_roundw
                   case rel => exact ⟨_, _, _, q + 1, rfl, by go_num, by omega, by omega, Lib.hid (HLe.out.stay ((Kept.refl _ _).drewN _))⟩
                   case measure => simp [intOf]; omega)
    · have HOp := Lib.hid (hL.out.lc.opened (by omega) 0 (by decide) (A3 := none) (n3 := 0) (c3 := 0) (fun j hj => absurd hj (Nat.not_lt_zero j)))
      by_cases hn1 : q < n
      · have hq9 : (q : Int) < (n : Int) := by omega
        have hq7 : ¬ (q : Int) < 50 := by omega
        go_wp2_with (first | ((with_reducible refine HOq.out.mono ?_); rintro e W6 ⟨rfl, T6, h6⟩; have HL6 := Lib.hid h6; clear h6) | (go_at_call 7; refine HOp.out.mono ?_; rintro e W5 ⟨rfl, T5, h5⟩; have HL5 := Lib.hid h5; have HOq := Lib.hid (h5.lc.opened (by omega) 0 (by decide) (A3 := none) (n3 := 0) (c3 := 0) (fun j hj => absurd hj (Nat.not_lt_zero j))); clear h5))
        go_ret
        exact ⟨rfl, HL6.out.kw⟩
      · have hq9 : ¬ (q : Int) < (n : Int) := by omega
        go_wp2_with (first | (go_at_call 7; (with_reducible refine HOq.out.mono ?_); rintro e W6 ⟨rfl, T6, h6⟩; have HL6 := Lib.hid h6; clear h6) | (go_at_call 7; refine HOp.out.mono ?_; rintro e W5 ⟨rfl, T5, h5⟩; have HL5 := Lib.hid h5; have HOq := Lib.hid (h5.lc.opened (by omega) 0 (by decide) (A3 := none) (n3 := 0) (c3 := 0) (fun j hj => absurd hj (Nat.not_lt_zero j))); clear h5))
        go_ret
        exact ⟨rfl, HL6.out.kw⟩
end Go.Proofs.YtcifhfdjigfeiaaGreatDoor
end
