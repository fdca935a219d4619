import Derived.Test.YtefpigakhhfcaaaDoorMcg
import Derived.Test.YtefpigakhhfcaaaDoorMao
/-! courantlaw21.SeglogFrom, walked. -/
section
set_option linter.unusedVariables false
set_option linter.unusedSimpArgs false
namespace Go.Proofs.YtefpigakhhfcaaaDoor
open Go.RowKit

/-- What is held when so many records have been appended. -/
def FrA (w W : World) (T F M : Nat) (lim : Int) (ps : List BV) (k : Nat) : Prop := ∃ fs c v ms sf, LW w W (fun _ => none) T F M ⟨#[97]⟩ fs c lim v ms sf k (316 * k) ∧ allR (prts ms) = (ps.take k).map BV.b ∧ fstP (prts ms) = 0 ∧ ∀ b ∈ (ps.take k).map BV.b, b.length ≤ 300
theorem FrA.nx {w W : World} {T F M : Nat} {ps : List BV} {k : Nat} {fs : List PF} {c : Nat} {lim : Int} {v : Value} {ms : List PM} {sf U N : Nat} (h : LW w W (fun _ => none) T F M ⟨#[97]⟩ fs c lim v ms sf N U) (ha : allR (prts ms) = (ps.take k).map BV.b) (hf : fstP (prts ms) = 0) (hk : k ≤ ps.length) : nxtP (prts ms) = k := by
  rw [nxtP_eq h.ls.sm.cont, hf, ha, List.length_map, List.length_take]; omega
set_option maxRecDepth 100000 in
set_option maxHeartbeats 40000000 in
theorem seglogFrom_few (w : World) (A : Option Addr) (n c off : Nat) (ps : List BV) (X : Int) (h : InBs w A ps) (hn : n = ps.length) (hn40 : n ≤ 40) (hoff : off < 18446744073709551616) :
    Calls Tryd.prog 3 #[.slice A n c, .int .u64 (off : Nat), .int .i64 X] w fun e w' => e = .returned (.bool true) ∧ Kept (fun _ => False) w w' := by
  have HN := Lib.hid (new_any w 1048576)
  have HB : Hid (boundI 1048576 = 1048576) := Lib.hid (by decide)
  have kc := fun (w : World) (C : Array Value) (n c : Nat) => Lib.run_convert_bytes_const (P := Tryd.prog) w 31 5 C n c Tryd.underlying31 Tryd.underlying5
  have H := Lib.hid h
  have Hn := Lib.hid hn
  have g40 : ¬ (40 : Int) < (n : Int) := by omega
  clear h hn
  go_enter Tryd.func3, Tryd.ntmps3
  go_upto_region 4 with (first
    | (go_at_call 8; refine HN.out.mono ?_; rintro e w1 ⟨F, M, rfl, hF, hk, hF1, hM1⟩; rw [HB.out] at hF; have HF := Lib.hid hF; have HK1 := Lib.hid hk; have HF1 := Lib.hid hF1; have HM1 := Lib.hid hM1; clear hF hk hF1 hM1)
    | (go_at_call 7; refine (slOpen_first (nm := ⟨#[97]⟩) HF.out HK1.out HF1.out HM1.out (by decide) nmL_full).mono ?_; rintro e w2 ⟨T, v, ps2, c2, rfl, hl⟩; have HL2 := Lib.hid hl; clear hl)
    | (go_at_call 9; refine (awake21_any _).mono ?_; rintro e w3 ⟨rfl, hk3⟩; have HT3 : Hid (FrA w w3 T F M 1048576 ps 0) := Lib.hid ⟨_, _, _, _, _, HL2.out.stay hk3, rfl, rfl, (fun b hb => by simp at hb)⟩; clear hk3))
  clear HF HK1 HF1 HM1 HL2 HN HB
  go_wp2_with fail
  go_loopw [9] (fun i wr => ∃ k : Nat, i = .int .i64 (k : Nat) ∧ k ≤ n ∧ Hid (FrA w wr T F M 1048576 ps k)) (fun i _ => n - (intOf i).toNat)
  case atStart => exact ⟨0, rfl, by omega, HT3⟩
  case round =>
    clear HT3
    obtain ⟨k, rfl, hkn, hI⟩ := hrel
    by_cases hc : k < n
    · have g1 : (k : Int) < (n : Int) := by omega
      obtain ⟨fs, cl, v1, ms, sf, hL, ha, hf, hb⟩ := hI.out
      have hnx := FrA.nx hL ha hf (by have := Hn.out; omega)
      obtain ⟨r, hr⟩ : ∃ r, ps[k]? = some r := ⟨_, List.getElem?_eq_getElem (by have := Hn.out; omega)⟩
      obtain ⟨ad, rfl, hcell, hbs, hrn⟩ := H.out k r hr
      have hcr := hL.kw.cell hcell (by simp)
      unfold BV.val at hcr
      have Hcell := Lib.hid hcell
      by_cases hlen : r.b.length ≤ 300
      · have g2 : ¬ (300 : Int) < (r.b.length : Int) := by omega
        have h5 : IntKind.u64.wrap ((k : Nat) : Int) = (k : Int) := by rw [IntKind.wrap_u64]; omega
        have HA : Hid (Calls Tryd.prog 10 #[.pointer (some ⟨T, 0, none⟩), .slice r.A r.b.length r.c] wr (LWApp w wr (fun _ => none) T F M ⟨#[97]⟩ fs 1048576 v1 ms k (316 * k) r.b)) := Lib.hid (hL.append (by omega) (by decide) nmL_full (by omega) (by omega) (fun W hW => hbs.up (hL.put_kept hW)) rfl hrn (by omega))
        have Hnx := Lib.hid hnx
        have HNew : Hid (allR (logPut (prts ms) r.b) = (ps.take (k + 1)).map BV.b ∧ fstP (logPut (prts ms) r.b) = 0 ∧ ∀ b ∈ (ps.take (k + 1)).map BV.b, b.length ≤ 300) := Lib.hid (by
          have e : (ps.take (k + 1)).map BV.b = (ps.take k).map BV.b ++ [r.b] := by rw [List.take_add_one, hr, Option.toList_some, List.map_append]; rfl
          refine ⟨by rw [logPut_all, ha, e], by rw [logPut_fst, hf], fun b hb2 => ?_⟩
          rw [e] at hb2
          rcases List.mem_append.1 hb2 with h9 | h9
          · exact hb b h9
          · rw [List.mem_singleton.1 h9]; exact hlen)
        clear hL ha hf hb hnx hr hcell hbs hrn
        go_wp2_with (go_at_call 10; refine HA.out.mono ?_; rintro e w4 ⟨ps4, c4, v4, ms4, sf4, rfl, hl4, hp4, -, -⟩; rw [Hnx.out]; have HT4 : Hid (FrA w w4 T F M 1048576 ps (k + 1)) := Lib.hid ⟨ps4, c4, v4, ms4, sf4, hl4.mono (by omega), by rw [hp4]; exact HNew.out.1, by rw [hp4]; exact HNew.out.2.1, HNew.out.2.2⟩; clear hl4 hp4)
        go_roundw
        case rel => exact ⟨k + 1, by go_num, by omega, HT4⟩
        case measure => simp [intOf]; omega
      · have g2 : (300 : Int) < (r.b.length : Int) := by omega
        have HW := Lib.hid hL.kw
        clear hL ha hf hb hnx hr hcell hbs hrn hI
        go_wp2_with (go_at_call 9; refine (awake21_any _).mono ?_; rintro e w4 ⟨rfl, hk4⟩; have HK4 := Lib.hid (HW.out.trans' hk4); clear hk4)
        go_ret
        exact ⟨rfl, HK4.out⟩
    · have hX : ¬ (k : Int) < (n : Int) := by omega
      have hkn2 : n ≤ k := by omega
      obtain ⟨fs, cl, v1, ms, sf, hL, ha, hf, hb⟩ := hI.out
      have hall : allR (prts ms) = ps.map BV.b := by rw [ha, List.take_of_length_le (by have := Hn.out; omega)]
      have HFr := Lib.hid (slFrom_some wr T F off _ v1 ms false hL.ls.lg.lb hL.ls.lg.row (by have := hL.few; omega))
      have HL := Lib.hid hL
      have Hall := Lib.hid hall
      have Hf := Lib.hid hf
      have Hb : Hid (∀ b ∈ ps.map BV.b, b.length ≤ 300) := Lib.hid (by rw [List.take_of_length_le (by have := Hn.out; omega)] at hb; exact hb)
      clear hL ha hf hb hall hI hc
      go_upto_region 13 with (go_at_call 11; refine HFr.out.mono ?_; rintro e w5 ⟨vf, rfl, hb1, hb2, hrow, hk5⟩; have HB1 := Lib.hid hb1; have HB2 := Lib.hid hb2; have HRow := Lib.hid hrow; have HK5 := Lib.hid hk5; clear hb1 hb2 hrow hk5)
      obtain ⟨mn, hmn⟩ : ∃ mn, mn = min off n := ⟨_, rfl⟩
      obtain ⟨lf, hlf⟩ : ∃ lf, lf = n - mn := ⟨_, rfl⟩
      have i1 : IntKind.u64.wrap ((n : Nat) : Int) = (n : Int) := by rw [IntKind.wrap_u64]; omega
      have i2 : min (off : Int) (n : Int) = (mn : Int) := by omega
      have i3 : (n : Int) - (mn : Int) = (lf : Int) := by omega
      have i4 : max 0 (lf : Int) = (lf : Int) := by omega
      have hmn9 : mn ≤ 40 := by omega
      have hlf9 : lf ≤ 40 := by omega
      have HMn := Lib.hid hmn
      have HLf := Lib.hid hlf
      clear hmn hlf
      go_upto_region 14 with fail
      obtain ⟨b6, hb6⟩ : ∃ b6, b6 = w5.heap.size := ⟨_, rfl⟩
      obtain ⟨W6, hW6⟩ : ∃ W6, W6 = w5.alloc (.cells #[.int .u8 109, .int .u8 111, .int .u8 114, .int .u8 101] 5 (4, 5)) := ⟨_, rfl⟩
      have hk6 : Kept (fun _ => False) w5 W6 := by rw [hW6]; exact (Kept.refl _ w5).alloc _
      have hbk : W6.heap[b6]? = some (.cells ((([109, 111, 114, 101] : List UInt8)).map bv).toArray 5 (4, 5)) := by rw [hW6, hb6]; exact heap_alloc_new w5 _
      have hL6 := (HL.out.stay HK5.out).stay hk6
      have HA := Lib.hid (hL6.append (A := some ⟨b6, 0, none⟩) (n := 4) (c := 4) (xs := [109, 111, 114, 101]) (by omega) (by decide) nmL_full (by simp; omega) (by simp; omega) (fun W hW => bs_blk (hW.heap hbk fun e => by have := (HL.out.stay HK5.out).ls.lg.foot_lt b6 e; omega)) rfl (fun e => by cases e) (by simp))
      have hF6 : FromAt W6 (wr.heap.size + 1) wr.heap.size off vf ms := FromAt.stay ⟨HB2.out, HB1.out, own_low HRow.out (Nat.zero_le _), (HL.out.stay HK5.out).ls.lg.bbs⟩ hk6
      have HF6 := Lib.hid hF6
      have HK6 : Hid (Kept (fun _ => False) wr W6) := Lib.hid (HK5.out.trans' hk6)
      obtain ⟨Bp, hBp⟩ : ∃ Bp, Bp = wr.heap.size + 1 := ⟨_, rfl⟩
      obtain ⟨Bo, hBo⟩ : ∃ Bo, Bo = wr.heap.size := ⟨_, rfl⟩
      rw [← hBp, ← hBo]
      rw [← hBp, ← hBo] at HF6
      have HBp := Lib.hid hBp
      have HBo := Lib.hid hBo
      clear hL6 hF6 hk6 hbk hBp hBo
      go_upto_region 15 with (go_at_call 10; rw [← hW6, ← hb6]; refine HA.out.mono ?_; rintro e w7 ⟨ps7, c7, v7, ms7, sf7, rfl, hl7, hp7, hm7, hbb7⟩; have HF7 : Hid (FromAt w7 Bp Bo off vf ms) := Lib.hid ⟨hm7.kept.heap HF6.out.bp (fun e => by have h1 := HL.out.ls.lg.foot_lt _ e; have h2 := HBp.out; omega), hm7.kept.heap HF6.out.bo (fun e => by have h1 := HL.out.ls.lg.foot_lt _ e; have h2 := HBo.out; omega), own_kept HF6.out.row hm7.kept (fun q e e2 => by have h1 := HL.out.ls.lg.foot_lt _ e2; have h2 := own_ge HRow.out q e; omega), hbb7⟩; have HW7 := Lib.hid hl7.kw; clear hl7 hp7 hm7 hbb7)
      clear hb6 hW6
      have hxs : recsFr off (ms.map PM.prt) = recsL off 0 (ps.map BV.b) := by
        rw [show ms.map PM.prt = prts ms from rfl, recsFr_cont off HL.out.ls.sm.cont, Hf.out, Hall.out]
      have hxl : (recsFr off (ms.map PM.prt)).length = lf := by
        rw [hxs, recsL_len, List.length_map]; have := Hn.out; have := HMn.out; have := HLf.out; omega
      have hmr : ∀ p ∈ ms, p.rs.length ≤ 1000000 ∧ p.first ≤ 1000000000 ∧ ∀ r ∈ p.rs, r.b.length ≤ 1000000 := fun p hp => by
        have h1 := HL.out.ls.sm.one (p := p.prt) (List.mem_map_of_mem hp)
        have e : p.prt.2.length = p.rs.length := by simp [PM.prt]
        have e2 : p.prt.1 = p.first := rfl
        refine ⟨by omega, by omega, fun r hr => ?_⟩
        have h2 := HL.out.ls.sm.len p.prt (List.mem_map_of_mem hp) r.b (by simp only [PM.prt]; exact List.mem_map_of_mem hr)
        omega
      have hit := slFrom1_iter Bp Bo off vf ms w7 HF7.out (by have := HL.out.few; omega) hmr
      have HSq := Lib.hid (seq2_any lf w7.heap.size w7 _ _ _ hit (fun q hq => HF7.out.lt q hq) (Nat.le_of_eq hxl) (by omega) (Nat.le_refl _))
      have HXs := Lib.hid hxs
      have HXl := Lib.hid hxl
      have HMr := Lib.hid hmr
      clear hxs hxl hmr hit
      go_upto_region 18 with (go_at_call 12; refine HSq.out.mono ?_; rintro e w8 ⟨va, vb, ys, rfl, hys, h1, h2, h3, hk8⟩; rw [HXl.out] at h1 h2; obtain ⟨Ao, co, rfl⟩ := own_slice h1; obtain ⟨Ad, cd, rfl⟩ := own_slice h2; have HYs := Lib.hid hys; have HO1 := Lib.hid h1; have HO2 := Lib.hid h2; have HO3 := Lib.hid h3; have HK8 := Lib.hid hk8; clear hys h1 h2 h3 hk8)
      have HK48 : Hid (Kept (fun _ => False) w w8) := Lib.hid (HW7.out.trans' HK8.out)
      go_wp2_with fail
      go_loopw [17] (fun i w9 => ∃ q : Nat, i = .int .i64 (q : Nat) ∧ q ≤ lf ∧ Hid (Kept (fun _ => False) w8 w9)) (fun i _ => lf - (intOf i).toNat)
      case' atStart => exact ⟨0, rfl, by omega, Lib.hid (Kept.refl _ _)⟩
      obtain ⟨q, rfl, hq, hK9⟩ := hrel
      by_cases hql : q < lf
      · have q1 : (q : Int) < (lf : Int) := by omega
        obtain ⟨y, hy⟩ : ∃ y, y = off + q := ⟨_, rfl⟩
        have hyn : y < n := by have := HMn.out; have := HLf.out; omega
        obtain ⟨r, hr⟩ : ∃ r, ps[y]? = some r := ⟨_, List.getElem?_eq_getElem (by have := Hn.out; omega)⟩
        have hxq : (recsFr off (ms.map PM.prt))[q]? = some (r.b, y) := by
          rw [HXs.out, recsL_get, List.getElem?_map, show q + (off - 0) = y by omega, hr]
          simp
        obtain ⟨x, hx⟩ : ∃ x, ys[q]? = some x := ⟨_, List.getElem?_eq_getElem (by have h9 := congrArg List.length HYs.out; rw [List.length_map, HXl.out] at h9; omega)⟩
        have hx1 : x.1 = (r.b, y) := by
          have h9 := congrArg (fun l => l[q]?) HYs.out
          simp only [List.getElem?_map, hx, Option.map_some, hxq, Option.some.injEq] at h9
          exact h9
        obtain ⟨Go, co', e1, -, hco, hcell1⟩ := own_cell HO1.out (by omega)
        simp only [Value.slice.injEq, true_and] at e1
        obtain ⟨rfl, rfl⟩ := e1
        obtain ⟨Gd, cd', e2, -, hcd, hcell2⟩ := own_cell HO2.out (by omega)
        simp only [Value.slice.injEq, true_and] at e2
        obtain ⟨rfl, rfl⟩ := e2
        have c1 := hK9.out.cell (hcell1 q (.int .u64 (y : Nat)) (by rw [List.getElem?_map, hxq]; rfl)) (by simp)
        have hown := HO3.out x (List.mem_of_getElem? hx)
        rw [hx1] at hown
        obtain ⟨Ax, cx, hxv, -, hbx, hAx, -⟩ := Bs.of_own hown
        have c2 := hK9.out.cell (hcell2 q x.2 (by rw [List.getElem?_map, hx]; rfl)) (by simp)
        rw [hxv] at c2
        obtain ⟨ad, rfl, hcr, hbs, -⟩ := H.out y r hr
        have c3 := (HK48.out.trans' hK9.out).cell hcr (by simp)
        unfold BV.val at c3
        have y1 : IntKind.u64.wrap ((q : Nat) : Int) = (q : Int) := by rw [IntKind.wrap_u64]; omega
        have y2 : IntKind.u64.wrap ((off : Int) + (q : Int)) = (y : Int) := by rw [IntKind.wrap_u64]; omega
        have HBy : Hid (∀ a, Calls Tryd.prog 13 #[.slice Ax r.b.length cx, .slice r.A r.b.length r.c] (wr.drewN a) fun e w' => e = .returned (.bool true) ∧ ∃ m, w' = (wr.drewN a).drewN m) := Lib.hid fun a => by
          have hka : Kept (fun _ => False) wr (wr.drewN a) := (Kept.refl _ wr).drewN a
          refine (bytes_any (wr.drewN a) Ax r.A r.b.length cx r.b.length r.c r.b r.b rfl rfl ((hbx.kept hK9.out (by simp)).kept hka (by simp)) ((hbs.kept (HK48.out.trans' hK9.out) (by simp)).kept hka (by simp))).mono ?_
          rintro e w' ⟨rfl, rfl⟩
          exact ⟨by simp, 0, rfl⟩
        have hy40 : y < 40 := by omega
        have HyN := Lib.hid hyn
        clear hcell1 hcell2 hown hbx hxv hx hx1 hxq hr hbs hcr hy hAx
        go_upto_region 21 with fail
        go_quiet ((go_at_call 13; exact Calls.quiet_of (HBy.out _)))
        go_wp2
        go_roundw
        case rel => exact ⟨q + 1, by go_num, by omega, Lib.hid (hK9.out.trans' ((Kept.refl _ _).drewN _))⟩
        case measure => simp [intOf]; omega
      · have q1 : ¬ (q : Int) < (lf : Int) := by omega
        have HSt := Lib.hid fun (nn : Nat) (h1 : 1 ≤ nn) (h9 : nn ≤ 1000000) => slStops_any wr Bp Bo off nn vf ms ((HF7.out.stay HK8.out).stay hK9.out) (by have := HL.out.few; omega) HMr.out h1 h9
        obtain ⟨N0, hN0⟩ : ∃ L, L = wrap64 ((IntKind.u64.wrap X).tmod ((lf : Int) + 1)) := ⟨_, rfl⟩
        have HNr := Lib.hid (modN_r ((lf : Int) + 1) X (by omega) (by omega))
        rw [← hN0] at HNr
        obtain ⟨s0, hs0⟩ : ∃ s0 : Nat, N0 = s0 := ⟨N0.toNat, by have := HNr.out; omega⟩
        subst hs0
        have hs9 : s0 ≤ 40 := by have := HNr.out; omega
        have hN1 := hN0.symm
        have z1 : IntKind.u64.wrap ((lf : Int) + 1) = (lf : Int) + 1 := by rw [IntKind.wrap_u64]; omega
        clear hN0
        go_upto_region 24 with fail
        obtain ⟨nn, hnn⟩ : ∃ nn, nn = s0 + 1 := ⟨_, rfl⟩
        have e9 : (1 : Int) + (s0 : Int) = (nn : Int) := by omega
        rw [e9]
        obtain ⟨mm, hmm⟩ : ∃ mm, mm = min nn lf := ⟨_, rfl⟩
        have i5 : min (nn : Int) (lf : Int) = (mm : Int) := by omega
        have HS9 := Lib.hid (HSt.out nn (by omega) (by omega))
        rw [HXl.out, ← hmm] at HS9
        clear hnn hmm e9 hN1 z1
        go_wp2_with (go_at_call 14; refine HS9.out.mono ?_; rintro e w11 ⟨rfl, hk11⟩; have HK11 := Lib.hid ((HK48.out.trans' hK9.out).trans' hk11); clear hk11)
        go_ret
        exact ⟨rfl, HK11.out⟩
set_option maxRecDepth 100000 in
set_option maxHeartbeats 8000000 in
theorem seglogFrom_many (w : World) (A : Option Addr) (n c off : Nat) (X : Int) (hn40 : 40 < n) (hn9 : (n : Int) ≤ 9223372036854775807) :
    Calls Tryd.prog 3 #[.slice A n c, .int .u64 (off : Nat), .int .i64 X] w fun e w' => e = .returned (.bool true) ∧ Kept (fun _ => False) w w' := by
  have HN := Lib.hid (new_any w 1048576)
  have HB : Hid (boundI 1048576 = 1048576) := Lib.hid (by decide)
  have g40 : (40 : Int) < (n : Int) := by omega
  go_enter Tryd.func3, Tryd.ntmps3
  go_upto_region 3 with (first
    | (go_at_call 8; refine HN.out.mono ?_; rintro e w1 ⟨F, M, rfl, hF, hk, hF1, hM1⟩; rw [HB.out] at hF; have HF := Lib.hid hF; have HK1 := Lib.hid hk; have HF1 := Lib.hid hF1; have HM1 := Lib.hid hM1; clear hF hk hF1 hM1)
    | (go_at_call 7; refine (slOpen_first (nm := ⟨#[97]⟩) HF.out HK1.out HF1.out HM1.out (by decide) nmL_full).mono ?_; rintro e w2 ⟨T, v, ps2, c2, rfl, hl⟩; have HW2 := Lib.hid hl.kw; clear hl)
    | (go_at_call 9; refine (awake21_any _).mono ?_; rintro e w3 ⟨rfl, hk3⟩; have HK3 := Lib.hid (HW2.out.trans' hk3); clear hk3))
  go_wp2_with (go_at_call 9; refine (awake21_any _).mono ?_; rintro e w4 ⟨rfl, hk4⟩; have HK4 := Lib.hid (HK3.out.trans' hk4); clear hk4)
  go_ret
  exact ⟨rfl, HK4.out⟩
theorem seglogFrom_any (w : World) (A : Option Addr) (n c off : Nat) (ps : List BV) (X : Int) (h : InBs w A ps) (hn : n = ps.length) (hn9 : (n : Int) ≤ 9223372036854775807) (hoff : off < 18446744073709551616) :
    Calls Tryd.prog 3 #[.slice A n c, .int .u64 (off : Nat), .int .i64 X] w fun e w' => e = .returned (.bool true) ∧ Kept (fun _ => False) w w' := by
  rcases Nat.lt_or_ge 40 n with h4 | h4
  · exact seglogFrom_many w A n c off X h4 hn9
  · exact seglogFrom_few w A n c off ps X h hn h4 hoff
end Go.Proofs.YtefpigakhhfcaaaDoor
end
