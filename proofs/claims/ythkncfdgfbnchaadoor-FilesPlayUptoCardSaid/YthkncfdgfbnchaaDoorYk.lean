import Derived.Test.YthkncfdgfbnchaaDoorYj
import Derived.Test.YthkncfdgfbnchaaDoorYg
import Derived.Test.YthkncfdgfbnchaaDoorE1
/-! FilesPlay, walked. -/
section
set_option linter.unusedVariables false
set_option linter.unusedSimpArgs false
namespace Go.Proofs.YthkncfdgfbnchaaDoor
open Go.RowKit Go.Sort

/-- The ops that came in. -/
structure OpC (w : World) (ad : Addr) (k : Int) (nm to_ : ByteArray) (Ab : Option Addr) (lb cb : Nat) (N : Int) (Ak : Option Addr) (lk ck : Nat) : Prop where
  c0 : w.cell? ad = some (.int .i64 k)
  c1 : w.cell? ⟨ad.block, ad.off + 1, none⟩ = some (.string nm)
  c2 : w.cell? ⟨ad.block, ad.off + 2, none⟩ = some (.string to_)
  c3 : w.cell? ⟨ad.block, ad.off + 3, none⟩ = some (.slice Ab lb cb)
  c4 : w.cell? ⟨ad.block, ad.off + 4, none⟩ = some (.int .i64 N)
  c5 : w.cell? ⟨ad.block, ad.off + 5, none⟩ = some (.slice Ak lk ck)
def OpsAt (w : World) (A : Option Addr) (n : Nat) : Prop := ∀ j, j < n → ∃ ad k nm to_ Ab lb cb N Ak lk ck, A = some ad ∧ OpC w (ad.add (j * 6)) k nm to_ Ab lb cb N Ak lk ck ∧ OpOk w nm to_ Ab lb cb N Ak lk ck
set_option maxRecDepth 100000 in
set_option maxHeartbeats 8000000 in
theorem play_any (limit : Int) (A : Option Addr) (n c : Nat) (w : World) (h : OpsAt w A n) :
    Calls Tryd.prog 6 #[.int .i64 limit, .slice A n c] w fun e w' => e = .returned (.bool true) ∧ Kept (fun _ => False) w w' := by
  have HOps := Lib.hid h
  have HN := Lib.hid (new_any w limit)
  clear h
  go_enter Tryd.func6, Tryd.ntmps6
  go_wp2_with (first
    | (go_at_call 10; refine HN.out.mono ?_; rintro e w1 ⟨F, M, rfl, hF, hk, hF1, hM1⟩; have HF := Lib.hid hF; have HK1 := Lib.hid hk; have HF1 := Lib.hid hF1; have HM1 := Lib.hid hM1; clear hF hk hF1 hM1)
    | (go_at_call 23; refine (rnew_any limit _).mono ?_; rintro e w2 ⟨R, rfl, hR, hRef, hk⟩; have HR := Lib.hid hR; have HRef := Lib.hid hRef; have HK2 := Lib.hid hk; clear hR hRef hk)
    | (go_at_call 11; refine (awake_any _).mono ?_; rintro e w3 ⟨rfl, hk⟩; have HK3 := Lib.hid hk; clear hk))
  have hB0 : Both w w3 F M R (.slice none 0 0) [] [] 0 (boundI limit) 0 false (boundI limit) 0 false := by
    have hFa : ∀ k ∈ foot F M [], k = F ∨ k = M := by simp [foot]
    have hRa : ∀ k ∈ rfoot R (.slice none 0 0) [], k = R := by simp [rfoot, Value.ownBlock]
    have h1 := HK1.out.size
    have h2 := HK2.out.size
    refine ⟨(HF.out.kept HK2.out (by simp)).kept HK3.out (by simp), HRef.out.kept HK3.out (by simp), fun k hk => ?_, fun k hk => ?_, fun k hk hm => ?_, (HK1.out.trans' HK2.out).trans' HK3.out⟩
    · have := HF1.out; have := HM1.out; rcases hFa k hk with h | h <;> omega
    · have := hRa k hk; have := HR.out; omega
    · have h3 := hRa k hm
      have h4 := HR.out
      have h5 := HF.out.lt k hk
      omega
  have HB0 := Lib.hid hB0
  clear hB0
  go_loopw [5, 7, 8, 9, 10, 11, 12, 13, 14, 15, 16] (fun f i _ _ _ _ _ _ _ _ _ wr => ∃ (F M : Nat) (v : Value) (ps : List PF) (rs : List RV) (clock : Nat) (lim arm : Int) (dn : Bool) (q : Nat), f = .pointer (some ⟨F, 0, none⟩) ∧ i = .int .i64 q ∧ q ≤ n ∧ q ≤ 80 ∧ Hid (Both w wr F M R v ps rs clock lim arm dn lim arm dn) ∧ Hid (Fit (ps.map PF.core) rs q)) (fun _ i _ _ _ _ _ _ _ _ _ _ => 80 - (intOf i).toNat)
  case atStart => exact ⟨F, M, _, [], [], 0, boundI limit, 0, false, 0, rfl, rfl, by omega, by omega, HB0, Lib.hid ⟨List.Perm.nil, List.Pairwise.nil, by simp, by simp [usedR], by simp⟩⟩
  case round =>
    obtain ⟨F, M, v, ps, rs, clock, lim, arm, dn, q, rfl, rfl, hq, hq8, hB, hf⟩ := hrel
    by_cases hlt : q < n ∧ q < 80
    · obtain ⟨hlt1, hlt2⟩ := hlt
      have hq9 : (q : Int) < (n : Int) := by omega
      have hq7 : (q : Int) < 80 := by omega
      obtain ⟨ad, k, nm, to_, Ab, lb, cb, N, Ak, lk, ck, rfl, hc, ho⟩ := HOps.out q hlt1
      have c0 := hB.out.kept.cell hc.c0 (by simp)
      have c1 := hB.out.kept.cell hc.c1 (by simp)
      have c2 := hB.out.kept.cell hc.c2 (by simp)
      have c3 := hB.out.kept.cell hc.c3 (by simp)
      have c4 := hB.out.kept.cell hc.c4 (by simp)
      have c5 := hB.out.kept.cell hc.c5 (by simp)
      have HO := Lib.hid ho
      clear hc ho
      go_upto_region 8 with fail
      obtain ⟨W2, hW2⟩ : ∃ W2, W2 = wr.alloc (.cells #[.int .i64 k, .string nm, .string to_, .slice Ab lb cb, .int .i64 N, .slice Ak lk ck] 47) := ⟨_, rfl⟩
      obtain ⟨D, hD⟩ : ∃ D, D = wr.heap.size := ⟨_, rfl⟩
      have hO2 : OpAt W2 D k nm to_ Ab lb cb N Ak lk ck := ⟨by rw [hW2, hD]; exact heap_alloc_new wr _⟩
      have hk2 : Kept (fun _ => False) wr W2 := by rw [hW2]; exact (Kept.refl _ wr).alloc _
      have HB2 := Lib.hid (hB.out.stay hk2)
      have Hf2 := Lib.hid (hf.out.more (Nat.le_succ q))
      have d0 := hO2.c0
      have d1 := hO2.c1
      have d2 := hO2.c2
      have d3 := hO2.c3
      have d4 := hO2.c4
      have d5 := hO2.c5
      rw [← hD, ← hW2]
      clear hW2 hD hO2 hk2 c0 c1 c2 c3 c4 c5 hB
      by_cases g0 : (5000 : Int) < (lb : Int)
      · go_wp2
        go_roundw
        case rel => exact ⟨F, M, v, ps, rs, clock, lim, arm, dn, q + 1, rfl, by go_num, by omega, by omega, HB2, Hf2⟩
        case measure => simp [intOf]; omega
      · by_cases g1 : (60 : Int) < (lk : Int)
        · go_wp2
          go_roundw
          case rel => exact ⟨F, M, v, ps, rs, clock, lim, arm, dn, q + 1, rfl, by go_num, by omega, by omega, HB2, Hf2⟩
          case measure => simp [intOf]; omega
        · have HS := Lib.hid (step_any k nm to_ Ab lb cb N Ak lk ck w W2 F M R v ps rs clock lim arm dn q HO.out (by omega) (by omega) HB2.out hf.out)
          unfold opV at HS
          clear Hf2
          go_upto_region 11 with (go_at_call 24; refine HS.out.mono ?_; rintro e W3 ⟨F', M', v', ps', rs', clock', lim', arm', dn', rfl, hB3, hf3⟩; have HB3 := Lib.hid hB3; have Hf3 := Lib.hid hf3; clear hB3 hf3)
          clear d0 d1 d2 d3 d4 d5
          have Hus := Lib.hid (Hf3.out.alike.used)
          have e3 := HB3.out.r.rb.c3
          have HB4 := Lib.hid (HB3.out.stay ((Kept.refl (fun _ => False) W3).drew))
          go_region_held3 (fun W => W.cell? ⟨R, 3, none⟩ = some (.bool dn')) (first | assumption | simp [*]) (first
            | (go_at_call 26; refine (rused_any _ R v' rs' _ _ _ HB5.out.r (by have := Hf3.out.used; omega)).mono ?_; rintro e W5 ⟨rfl, rfl⟩)
            | (go_at_call 14; refine (used_any _ F' M' lim' arm' dn' ps' clock' HB4.out.f (by have := Hf3.out.used; have := Hus.out; omega)).mono ?_; rintro e W5 ⟨rfl, hk⟩; rw [Hus.out]; have HB5 := Lib.hid (HB4.out.stay hk); have f3 := HB5.out.r.rb.c3; clear hk)
            | (go_at_call 25; refine (down_any _ F' M' lim' arm' dn' HB4.out.f.fb).mono ?_; rintro e W4 ⟨rfl, rfl⟩))
          clear HB4 e3
          have hlen : (sortN ps').length = rs'.length := by rw [Hf3.out.alike.keys, List.length_map]
          have Hlen := Lib.hid hlen
          have Hfew := Lib.hid (show rs'.length ≤ 81 by have := Hf3.out.few; omega)
          obtain ⟨xs, hxs⟩ : ∃ xs, xs = rs'.map RV.name := ⟨_, rfl⟩
          have hx1 : (sortN ps').map encStr = xs.map Value.string := by rw [Hf3.out.alike.keys, hxs, List.map_map, List.map_map]; exact List.map_congr_left fun r _ => by simp [encStr, RV.key, Function.comp]
          have hx2 : rs'.map nmv = xs.map Value.string := by rw [hxs, List.map_map]; rfl
          have Hx1 := Lib.hid hx1
          have Hx2 := Lib.hid hx2
          obtain ⟨L, hL⟩ : ∃ L, L = rs'.length := ⟨_, rfl⟩
          have HL := Lib.hid hL
          have HxL : Hid (xs.length = L) := Lib.hid (by rw [hxs, hL, List.length_map])
          have hL9 : (L : Int) ≤ 81 := by have := Hfew.out; omega
          clear hlen hxs hx1 hx2 hL
          go_upto_region 16 with (first
            | (go_at_call 28; refine (list_any _ F' M' ps' clock' lim' arm' dn' HB5.out.f (by have := Hf3.out.alike.len; have := Hfew.out; omega) Hf3.out.namesF).mono ?_; rintro e W8 ⟨B, A8, c8, rfl, hbx, hss, hAA, hBB, hk⟩; have HB8 := Lib.hid (HB5.out.stay hk); have HBx := Lib.hid hbx; have HSs := Lib.hid hss; have HAA := Lib.hid hAA; clear hbx hss hAA hBB hk)
            | (go_at_call 27; refine (seq_any _ B _ c8 A8 (sortN ps') HBx.out rfl (by have := Hlen.out; have := Hfew.out; omega) HSs.out (fun ad e => (HAA.out ad e).2)).mono ?_; rintro e W9 ⟨vl, rfl, hown, hk⟩; rw [Hx1.out, Hlen.out, ← HL.out] at hown; obtain ⟨Al, cl, rfl⟩ := own_slice hown; have HVl := Lib.hid hown; have HB9 := Lib.hid (HB8.out.stay hk); clear hown hk)
            | (go_at_call 30; refine (rnames_any _ R v' rs' _ _ _ HB9.out.r).mono ?_; rintro e W10 ⟨u, rfl, hown, hk⟩; rw [Hx2.out, ← HL.out] at hown; have HU := Lib.hid hown; have HVl2 := Lib.hid (own_kept HVl.out hk (by simp)); have HB10 := Lib.hid (HB9.out.stay hk); clear hown hk)
            | (go_at_call 29; refine (plains_any _ _ _ L _ _ xs (by omega) HVl2.out HU.out).mono ?_; rintro e W11 ⟨rfl, m, rfl⟩; have HB11 := Lib.hid (HB10.out.stay ((Kept.refl (fun _ => False) W10).drewN m)); have HVl3 := Lib.hid (own_kept HVl2.out ((Kept.refl (fun _ => False) W10).drewN m) (by simp))))
          go_wp2
          obtain ⟨W12, hW12⟩ : ∃ W12, W12 = W10.drewN m := ⟨_, rfl⟩
          rw [← hW12] at HB11 HVl3 ⊢
          clear hW12
          go_loopw [12, 13, 14, 15, 16] (fun kk _ _ _ _ wr => ∃ j : Nat, kk = .int .i64 j ∧ j ≤ L ∧ Hid (Both w wr F' M' R v' ps' rs' clock' lim' arm' dn' lim' arm' dn') ∧ Hid (wr.ownsRow W8.heap.size 9 1 (.slice Al L cl) L (xs.map Value.string))) (fun kk _ _ _ _ _ => L - (intOf kk).toNat)
          case atStart => exact ⟨0, rfl, by omega, HB11, HVl3⟩
          case round =>
            obtain ⟨j, rfl, hj, hBj, hVj⟩ := hrel
            by_cases hjl : j < L
            · have hj9 : (j : Int) < (L : Int) := by omega
              have hAl : ∃ a, Al = some a ∧ ∀ j (h : j < xs.length), wr.cell? (a.add j) = some (.string xs[j]) := by
                obtain ⟨a, c9, hva, hcs⟩ := own_strs hVj.out (by omega)
                injection hva with e1 _ _
                exact ⟨a, e1, hcs⟩
              obtain ⟨a, rfl, hcs⟩ := hAl
              have hjx : j < xs.length := by have := HxL.out; omega
              have hcj := hcs j hjx
              obtain ⟨s, hs⟩ : ∃ s, s = xs[j] := ⟨_, rfl⟩
              rw [← hs] at hcj
              obtain ⟨er, bs, hbl, hFc, hRc⟩ := read_pair (R := R) (v := v') s (q + 1) hBj.out.f Hf3.out
              have HFc := Lib.hid hFc
              have HRc := Lib.hid hRc
              clear hs hjx hcs hFc hRc
              go_wp2_with (first
                | (go_at_call 21; refine (bytes_any _ _ _ _ _ _ _ bs bs rfl rfl (HBa.out.kept HKr2.out (by simp)) HBb.out).mono ?_; rintro e V2 ⟨rfl, rfl⟩)
                | (go_at_call 31; refine (HRc.out _ HBr1.out.r).mono ?_; rintro e V2 ⟨u2, rfl, hown, hk⟩; obtain ⟨A2, c2', rfl, -, hb, -, -⟩ := Bs.of_own hown; have HBr2 := Lib.hid (HBr1.out.stay hk); have HBb := Lib.hid hb; have HKr2 := Lib.hid hk; have HVr2 := Lib.hid (own_kept HVr1.out hk (by simp)); clear hown hk hb)
                | (go_at_call 19; refine HFc.out.mono ?_; rintro e V1 ⟨u1, rfl, hown, hk⟩; obtain ⟨A1, c1', rfl, -, hb, -, -⟩ := Bs.of_own hown; have HBr1 := Lib.hid (hBj.out.stay hk); have HBa := Lib.hid hb; have HVr1 := Lib.hid (own_kept hVj.out hk (by simp)); have hcj1 := hk.cell hcj (by simp); clear hown hk hb))
              go_roundw
              case rel => exact ⟨j + 1, by go_num, by omega, HBr2, HVr2⟩
              case measure => simp [intOf]; omega
            · obtain rfl : j = L := by omega
              go_wp2
              go_roundw
              case rel => exact ⟨F', M', v', ps', rs', clock', lim', arm', dn', q + 1, rfl, by go_num, by omega, by omega, hBj, Hf3⟩
              case measure => simp [intOf]; omega
    · by_cases h1 : (q : Int) < (n : Int)
      · have h2 : ¬ (q : Int) < 80 := fun h => hlt ⟨by omega, by omega⟩
        go_wp2
        go_ret
        exact ⟨rfl, hB.out.kept⟩
      · go_wp2
        go_ret
        exact ⟨rfl, hB.out.kept⟩
end Go.Proofs.YthkncfdgfbnchaaDoor
end
