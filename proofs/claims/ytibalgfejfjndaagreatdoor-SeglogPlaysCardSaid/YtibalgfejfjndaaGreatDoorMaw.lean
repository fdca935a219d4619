import Derived.Test.YtibalgfejfjndaaGreatDoorMat
import Derived.Test.YtibalgfejfjndaaGreatDoorMau
import Derived.Test.YtibalgfejfjndaaGreatDoorMag
/-! couranthelp.Stops over what From hands back: the iterator is called with a plain function. -/
section
set_option linter.unusedVariables false
set_option linter.unusedSimpArgs false
namespace Go.Proofs.YtibalgfejfjndaaGreatDoor
open Go.RowKit

end Go.Proofs.YtibalgfejfjndaaGreatDoor
end

/-! couranthelp.Stops over what From hands back; for SeglogFrom. -/
section
set_option linter.unusedVariables false
set_option linter.unusedSimpArgs false
namespace Go.Proofs.YtibalgfejfjndaaGreatDoor
open Go.RowKit

/-- What came in reads still, whatever new has turned. -/
theorem Bs.up {w W : World} {A : Option Addr} {xs : List UInt8} (h : Bs w A xs) (hk : Kept (fun k => w.heap.size ≤ k) w W) : Bs W A xs :=
  ⟨h.1, fun ad e j u hu => hk.cell (h.2 ad e j u hu) (by have := World.block_lt_of_cell? w _ (h.2 ad e j u hu); omega)⟩
theorem LW.put_kept {w0 w W : World} {d : Disk} {T F M : Nat} {nm : ByteArray} {ps : List PF} {clock : Nat} {lim : Int} {v : Value} {ms : List PM} {sf N U : Nat} (h : LW w0 w d T F M nm ps clock lim v ms sf N U) (hk : Kept (LFoot T F M ps v ms) w W) : Kept (fun k => w0.heap.size ≤ k) w0 W :=
  (h.kw.mono fun _ _ e => e.elim).trans hk fun i hi e => h.fo i e
end Go.Proofs.YtibalgfejfjndaaGreatDoor
end

/-! SeglogPlays' world: alike. -/
section
set_option linter.unusedVariables false
set_option linter.unusedSimpArgs false
namespace Go.Proofs.YtibalgfejfjndaaGreatDoor
open Go.RowKit
section
variable {w0 W : World} {B N M : Nat} {d : Wd} {G : List Prt} {rs : List BV} {nm : ByteArray} {ps : List PF} {clock : Nat} {lim arm : Int} {dn dead : Bool} {v : Value} {ms : List PM}
set_option maxRecDepth 100000 in
set_option maxHeartbeats 16000000 in
theorem wAlike_any (h : WG w0 W B d G rs N) (hl : LG W d.T d.F M nm ps clock lim arm dn v ms dead) (hp : prts ms = G) (hsm : Sml G 100) (hw0 : Kept (fun _ => False) w0 W) (hrA : ∀ r ∈ rs, r.A = none → r.c = 0) :
    Calls Tryz.prog 27 #[.pointer (some ⟨B, 0, none⟩)] W fun e w' => e = .returned (.bool true) ∧ Kept (fun _ => False) W w' := by
  obtain ⟨T, hT⟩ : ∃ T, T = d.T := ⟨_, rfl⟩
  obtain ⟨F, hF⟩ : ∃ F, F = d.F := ⟨_, rfl⟩
  rw [← hT, ← hF] at hl
  obtain ⟨A5, k5, hsv, hsg, -, hlc5, -⟩ := h.sv.form
  obtain ⟨A3, k3, hrv, -, hlc3, hr3⟩ := h.rv.read
  rw [List.length_map] at hrv hlc3
  obtain ⟨f, hf⟩ : ∃ f, f = d.first := ⟨_, rfl⟩
  obtain ⟨n, hn⟩ : ∃ n, n = G.length := ⟨_, rfl⟩
  obtain ⟨L, hL⟩ : ∃ L, L = rs.length := ⟨_, rfl⟩
  obtain ⟨nx, hnx⟩ : ∃ nx, nx = nxtP G := ⟨_, rfl⟩
  rw [← hn] at hsv hlc5
  rw [← hL] at hrv hlc3
  have hnxe : nx = f + L := by rw [hnx, hf, hL, h.fst, h.len]; exact nxtP_eq hsm.cont
  have hnx9 : nx ≤ 100 := by rw [hnx]; exact hsm.nx
  have hn9 : n ≤ 101 := by rw [hn]; exact hsm.few
  have hms : ms.length ≤ 101 := by have := congrArg List.length hp; rw [prts, List.length_map] at this; omega
  have HAll : Hid (∀ W', Kept (fun _ => False) W W' → (W'.cell? ⟨B, 1, none⟩ = some (.pointer (some ⟨T, 0, none⟩)) ∧ W'.cell? ⟨B, 2, none⟩ = some (.int .u64 (f : Nat)) ∧ W'.cell? ⟨B, 3, none⟩ = some (.slice A3 L k3) ∧ W'.cell? ⟨B, 5, none⟩ = some (.slice A5 n k5)) ∧ WG w0 W' B d G rs N ∧ LG W' T F M nm ps clock lim arm dn v ms dead) := Lib.hid fun W' hk => by
    have h' := h.stay hk
    refine ⟨⟨?_, ?_, ?_, ?_⟩, h', hl.stay hk⟩
    · rw [hT]; exact h'.wb.c1
    · rw [hf]; exact h'.wb.c2
    · rw [← hrv]; exact h'.wb.c3
    · rw [← hsv]; exact h'.wb.c5
  have HF1 : Hid (∀ W', Kept (fun _ => False) W W' → Calls Tryz.prog 48 #[.pointer (some ⟨T, 0, none⟩)] W' fun e w' => e = .returned (.int .u64 (f : Nat)) ∧ Kept (fun _ => False) W w') := Lib.hid fun W' hk => by
    have h1 := slFirst_any (HAll.out W' hk).2.2.lb (HAll.out W' hk).2.2.row
    rw [hp, ← h.fst, ← hf] at h1
    refine h1.mono ?_
    rintro e w' ⟨rfl, rfl⟩
    exact ⟨rfl, hk⟩
  have HN1 : Hid (∀ W', Kept (fun _ => False) W W' → Calls Tryz.prog 18 #[.pointer (some ⟨T, 0, none⟩)] W' fun e w' => e = .returned (.int .u64 (nx : Nat)) ∧ Kept (fun _ => False) W w') := Lib.hid fun W' hk => by
    have h1 := slNext_any (HAll.out W' hk).2.2.lb (HAll.out W' hk).2.2.row (by omega) (by rw [hp, ← hnx]; omega)
    rw [hp, ← hnx] at h1
    refine h1.mono ?_
    rintro e w' ⟨rfl, h2⟩
    exact ⟨rfl, hk.trans' h2⟩
  have HN2 : Hid (∀ W', Kept (fun _ => False) W W' → Calls Tryz.prog 31 #[.pointer (some ⟨B, 0, none⟩)] W' fun e w' => e = .returned (.int .u64 (nx : Nat)) ∧ Kept (fun _ => False) W w') := Lib.hid fun W' hk => by
    have h1 := wNext_kept (HAll.out W' hk).2.1 hsm.cont (by rw [← hnx]; omega)
    rw [← hnx] at h1
    refine h1.mono ?_
    rintro e w' ⟨rfl, h2⟩
    exact ⟨rfl, hk.trans' h2⟩
  have HS1 : Hid (∀ W', Kept (fun _ => False) W W' → Calls Tryz.prog 54 #[.pointer (some ⟨T, 0, none⟩)] W' fun e w' => ∃ A c, e = .returned (.slice A n c) ∧ SgAt w' A G ∧ Kept (fun _ => False) W w') := Lib.hid fun W' hk => by
    refine (slSegments_any W' T F _ v ms dead (HAll.out W' hk).2.2.lb (HAll.out W' hk).2.2.row (by omega)).mono ?_
    rintro e w' ⟨u, rfl, hs, h2⟩
    rw [hp] at hs
    obtain ⟨A, c, rfl, hg, -⟩ := hs.form
    exact ⟨A, c, by rw [hn], hg, hk.trans' h2⟩
  have HP1 : Hid (∀ W' A c, Kept (fun _ => False) W W' → SgAt W' A G → Calls Tryz.prog 53 #[.slice A n c, .slice A5 n k5] W' fun e w' => e = .returned (.bool true) ∧ Kept (fun _ => False) W w') := Lib.hid fun W' A c hk hg => by
    refine (plainSg_eq W' A A5 n c k5 G hn (by omega) hg (hsg.kept hk (by simp))).mono ?_
    rintro e w' ⟨rfl, h2⟩
    exact ⟨rfl, hk.trans' h2⟩
  have HXs : Hid (recsFr 0 (ms.map PM.prt) = recsL 0 f (allR G)) := Lib.hid (by
    rw [show ms.map PM.prt = prts ms from rfl, hp, recsFr_cont 0 hsm.cont, hf, h.fst])
  have HXl : Hid ((recsFr 0 (ms.map PM.prt)).length = L) := Lib.hid (by
    rw [HXs.out, recsL_len, ← h.len, hL]; omega)
  have HMr : Hid (∀ p ∈ ms, p.rs.length ≤ 1000000 ∧ p.first ≤ 1000000000 ∧ ∀ r ∈ p.rs, r.b.length ≤ 1000000) := Lib.hid (fun p hp' => by
    have h1 := hsm.one (p := p.prt) (by rw [← hp]; exact List.mem_map_of_mem hp')
    have e : p.prt.2.length = p.rs.length := by simp [PM.prt]
    have e2 : p.prt.1 = p.first := rfl
    refine ⟨by omega, by omega, fun r hr => ?_⟩
    have h2 := hsm.len p.prt (by rw [← hp]; exact List.mem_map_of_mem hp') r.b (by simp only [PM.prt]; exact List.mem_map_of_mem hr)
    omega)
  have HRd : Hid (∀ i, i < L → ∃ (r : BV) (ad : Addr), rs[i]? = some r ∧ (allR G)[i]? = some r.b ∧ A3 = some ad ∧ W.cell? (ad.add i) = some (.slice r.A r.b.length r.c) ∧ Bs W r.A r.b ∧ (r.A = none → r.c = 0)) := Lib.hid fun i hi => by
    obtain ⟨r, hr⟩ : ∃ r, rs[i]? = some r := ⟨_, List.getElem?_eq_getElem (by omega)⟩
    obtain ⟨ad, e1, e2⟩ := hr3 i r.val (by rw [List.getElem?_map, hr]; rfl)
    exact ⟨r, ad, hr, by rw [← h.all, List.getElem?_map, hr]; rfl, e1, e2, (h.src r (List.mem_of_getElem? hr)).kept hw0 (by simp), hrA r (List.mem_of_getElem? hr)⟩
  have HMs := Lib.hid hms
  have HBl := Lib.hid h.wb.lt
  have HFr : Hid (∀ W', Kept (fun _ => False) W W' → Calls Tryz.prog 56 #[.pointer (some ⟨T, 0, none⟩), .int .u64 0] W' fun e w' => ∃ Bp Bo vf, e = .returned (.func (.func 72) #[] #[.pointer (some ⟨Bp, 0, none⟩), .pointer (some ⟨Bo, 0, none⟩)]) ∧ FromAt w' Bp Bo 0 vf ms ∧ Kept (fun _ => False) W w') := Lib.hid fun W' hk => by
    have h9 := (HAll.out W' hk).2.2
    refine (slFrom_some W' T F 0 _ v ms dead h9.lb h9.row (by omega)).mono ?_
    rintro e w' ⟨vf, rfl, hb1, hb2, hrow, hk8⟩
    exact ⟨_, _, vf, rfl, ⟨hb2, hb1, own_low hrow (Nat.zero_le _), (h9.stay hk8).bbs⟩, hk.trans' hk8⟩
  have HSq : Hid (∀ W' Bp Bo vf, Kept (fun _ => False) W W' → FromAt W' Bp Bo 0 vf ms → Calls Tryz.prog 55 #[.func (.func 72) #[] #[.pointer (some ⟨Bp, 0, none⟩), .pointer (some ⟨Bo, 0, none⟩)], .int .i64 (L : Nat)] W' fun e w' => ∃ Ao co Ad cd, e = .returned (.tuple #[.slice Ao L co, .slice Ad L cd, .bool true]) ∧ Kept (fun _ => False) W w' ∧
      ∀ i, i < L → ∃ go gd ad, ∃ r : BV, ∃ Ax cx, Ao = some ⟨go, 0, none⟩ ∧ Ad = some ⟨gd, 0, none⟩ ∧ A3 = some ad ∧ w'.cell? ⟨go, i, none⟩ = some (.int .u64 ((f + i : Nat) : Int)) ∧ w'.cell? ⟨gd, i, none⟩ = some (.slice Ax r.b.length cx) ∧ w'.cell? (ad.add i) = some (.slice r.A r.b.length r.c) ∧ Bs w' Ax r.b ∧ Bs w' r.A r.b) := Lib.hid fun W' Bp Bo vf hk hF => by
    refine (seq2_any L W'.heap.size W' _ _ _ (slFrom1_iter Bp Bo 0 vf ms W' hF (by omega) HMr.out) (fun q hq => hF.lt q hq) (by rw [HXl.out]; exact Nat.le_refl _) (by omega) (Nat.le_refl _)).mono ?_
    rintro e w9 ⟨va9, vb9, ys, rfl, hys, h1, h2, h3, hk9⟩
    rw [HXl.out] at h1 h2
    obtain ⟨Ao, co, rfl⟩ := own_slice h1
    obtain ⟨Ad, cd, rfl⟩ := own_slice h2
    refine ⟨Ao, co, Ad, cd, rfl, hk.trans' hk9, fun i hi => ?_⟩
    obtain ⟨r, ad, hr, hra, rfl, hcr, hbs, -⟩ := HRd.out i hi
    have hxq : (recsFr 0 (ms.map PM.prt))[i]? = some (r.b, f + i) := by
      rw [HXs.out, recsL_get, show i + (0 - f) = i by omega, hra]
      simp
    obtain ⟨x, hx⟩ : ∃ x, ys[i]? = some x := ⟨_, List.getElem?_eq_getElem (by have h9 := congrArg List.length hys; rw [List.length_map, HXl.out] at h9; omega)⟩
    have hx1 : x.1 = (r.b, f + i) := by
      have h9 := congrArg (fun l => l[i]?) hys
      simp only [List.getElem?_map, hx, Option.map_some, hxq, Option.some.injEq] at h9
      exact h9
    obtain ⟨Gd, cd', e2, -, -, hcell2⟩ := own_cell h2 (by omega)
    obtain ⟨Go, co', e3, -, -, hcell3⟩ := own_cell h1 (by omega)
    simp only [Value.slice.injEq] at e2 e3
    have hown := h3 x (List.mem_of_getElem? hx)
    rw [hx1] at hown
    obtain ⟨Ax, cx, hxv, -, hbx, hAx, -⟩ := Bs.of_own hown
    have hk2 := hk.trans' hk9
    refine ⟨Go, Gd, ad, r, Ax, cx, e3.1, e2.1, rfl, ?_, ?_, hk2.cell hcr (by simp), hbx, hbs.kept hk2 (by simp)⟩
    · exact hcell3 i _ (by rw [List.getElem?_map, hxq]; rfl)
    · rw [← hxv]; exact hcell2 i x.2 (by rw [List.getElem?_map, hx]; rfl)
  have s0 := (HAll.out W (Kept.refl _ _)).1
  have hL9 : L ≤ 100 := by omega
  have hf9 : f ≤ 100 := by omega
  clear h hl hp hsm hw0 hrA hsv hsg hlc5 hrv hlc3 hr3 hf hn hL hnx hT hF hms hnxe HRd HMr HXl HXs
  go_enter Tryz.func27, Tryz.ntmps27
  go_upto_region 1 with fail
  go_region_held3 (fun W => W.cell? ⟨B, 1, none⟩ = some (.pointer (some ⟨T, 0, none⟩)) ∧ W.cell? ⟨B, 2, none⟩ = some (.int .u64 (f : Nat)) ∧ W.cell? ⟨B, 3, none⟩ = some (.slice A3 L k3) ∧ W.cell? ⟨B, 5, none⟩ = some (.slice A5 n k5)) (first | assumption | simp [*]) (first
    | (go_at_call 53; refine (HP1.out _ _ _ (by first | exact HK4.out | exact HK4.out.drew) (by first | exact HG4.out | exact HG4.out.kept ((Kept.refl (fun _ => False) _).drew) (by simp))).mono ?_; rintro e w5 ⟨rfl, hk5⟩; have HK5 := Lib.hid hk5; have s5 := (HAll.out w5 hk5).1; clear hk5)
    | (go_at_call 54; refine (HS1.out _ (by first | exact HK3.out | exact HK3.out.drew)).mono ?_; rintro e w4 ⟨A4, c4, rfl, hg4, hk4⟩; have HK4 := Lib.hid hk4; have HG4 := Lib.hid hg4; have s4 := (HAll.out w4 hk4).1; clear hk4 hg4)
    | (go_at_call 31; refine (HN2.out _ (by first | exact HK2.out | exact HK2.out.drew)).mono ?_; rintro e w3 ⟨rfl, hk3⟩; have HK3 := Lib.hid hk3; have s3 := (HAll.out w3 hk3).1; clear hk3)
    | (go_at_call 18; refine (HN1.out _ (by first | exact HK1.out | exact HK1.out.drew)).mono ?_; rintro e w2 ⟨rfl, hk2⟩; have HK2 := Lib.hid hk2; have s2 := (HAll.out w2 hk2).1; clear hk2)
    | (go_at_call 48; refine (HF1.out _ (by first | exact Kept.refl _ _ | exact (Kept.refl _ _).drew)).mono ?_; rintro e w1 ⟨rfl, hk1⟩; have HK1 := Lib.hid hk1; have s1 := (HAll.out w1 hk1).1; clear hk1))
  go_wp2_with fail
  clear s1 s2 s3 s4 s0
  go_region_held3 (fun W => W.cell? ⟨B, 1, none⟩ = some (.pointer (some ⟨T, 0, none⟩)) ∧ W.cell? ⟨B, 2, none⟩ = some (.int .u64 (f : Nat)) ∧ W.cell? ⟨B, 3, none⟩ = some (.slice A3 L k3) ∧ W.cell? ⟨B, 5, none⟩ = some (.slice A5 n k5)) (first | assumption | simp [*]) (first
    | (go_at_call 55; refine (HSq.out _ _ _ _ (by first | exact HK6.out | exact HK6.out.drew) (by first | exact HF6.out | exact HF6.out.same fun _ _ => rfl)).mono ?_; rintro e w7 ⟨Ao, co, Ad, cd, rfl, hk7, hd7⟩; have HK7 := Lib.hid hk7; have HD7 := Lib.hid hd7; have s7 := (HAll.out w7 hk7).1; clear hk7 hd7)
    | (go_at_call 56; refine (HFr.out _ (by first | exact HK5.out | exact HK5.out.drew)).mono ?_; rintro e w6 ⟨Bp, Bo, vf, rfl, hf6, hk6⟩; have HK6 := Lib.hid hk6; have HF6 := Lib.hid hf6; have s6 := (HAll.out w6 hk6).1; clear hk6 hf6))
  go_wp2_with fail
  clear s5 s6
  go_loopw [6] (fun i wr => ∃ k : Nat, k ≤ L ∧ i = .int .i64 (k : Nat) ∧ Hid (Kept (fun _ => False) w7 wr)) (fun i _ => L - (intOf i).toNat)
  case' atStart => exact ⟨0, by omega, rfl, Lib.hid (Kept.refl _ _)⟩
  obtain ⟨k, hk, rfl, hK⟩ := hrel
  by_cases hkl : k < L
  · have hk9 : (k : Int) < (L : Int) := by omega
    obtain ⟨go, gd, ad, r, Ax, cx, rfl, rfl, rfl, y1, y2, y3, y4, y5⟩ := HD7.out k hkl
    have hs := (HAll.out wr (HK7.out.trans' hK.out)).1
    have c2 := hs.2.1
    have c3 := hs.2.2.1
    have y1 := hK.out.cell y1 (by simp)
    have y2 := hK.out.cell y2 (by simp)
    have y3 := hK.out.cell y3 (by simp)
    have Y4 := Lib.hid (y4.kept hK.out (by simp))
    have Y5 := Lib.hid (y5.kept hK.out (by simp))
    obtain ⟨fk, hfk⟩ : ∃ fk, fk = f + k := ⟨_, rfl⟩
    rw [← hfk] at y1
    have u1 : IntKind.u64.wrap ((k : Nat) : Int) = (k : Int) := by rw [IntKind.wrap_u64]; omega
    have u2 : IntKind.u64.wrap ((f : Int) + (k : Int)) = (fk : Int) := by rw [IntKind.wrap_u64]; omega
    have HBy : Hid (∀ a, Calls Tryz.prog 57 #[.slice Ax r.b.length cx, .slice r.A r.b.length r.c] (wr.drewN a) fun e w' => e = .returned (.bool true) ∧ ∃ m, w' = (wr.drewN a).drewN m) := Lib.hid fun a => by
      have hka : Kept (fun _ => False) wr (wr.drewN a) := (Kept.refl _ wr).drewN a
      refine (bytes_any (wr.drewN a) Ax r.A r.b.length cx r.b.length r.c r.b r.b rfl rfl (Y4.out.kept hka (by simp)) (Y5.out.kept hka (by simp))).mono ?_
      rintro e w' ⟨rfl, rfl⟩
      exact ⟨by simp, 0, rfl⟩
    clear hs y4 y5 hfk s7
    go_wp2_with fail
    go_quiet ((go_at_call 57; exact Calls.quiet_of (HBy.out _)))
    go_wp2
    go_roundw
    case rel => exact ⟨k + 1, by omega, by go_num, Lib.hid (hK.out.trans' ((Kept.refl _ _).drewN _))⟩
    case measure => simp [intOf]; omega
  · have hk9 : ¬ (k : Int) < (L : Int) := by omega
    go_wp2_with fail
    go_ret
    exact ⟨rfl, HK7.out.trans' hK.out⟩
end
end Go.Proofs.YtibalgfejfjndaaGreatDoor
end
