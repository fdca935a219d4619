import Derived.Test.YtcifhfdjigfeiaaGreatDoorAa
import Derived.Test.YtcifhfdjigfeiaaGreatDoorVg
import Derived.Test.YtcifhfdjigfeiaaGreatDoorZa
import Derived.OwnWalkIn
import Derived.Test.YtcifhfdjigfeiaaGreatDoorZu
/-! compact.Compact, whatever hits the files, and however little room there is. -/
section
set_option linter.unusedVariables false
set_option linter.unusedSimpArgs false
namespace Go.Proofs.YtcifhfdjigfeiaaGreatDoor
open Go.RowKit

def CompPost (w : World) (T F M : Nat) (nm : ByteArray) (ps : List PF) (lim arm : Int) (v : Value) (qs : List PV) (next size : Nat) (e : Ending) (w' : World) : Prop :=
  ∃ er ps' c' arm', e = .returned (.int .i64 er) ∧ Moved w T F M ps ps' w' ∧
    ((er = 0 ∧ (arm = 0 → arm' = 0) ∧ ∃ parts, Cut qs parts ∧ CS w' T F M nm ps' c' lim arm' false v qs parts.length (frLen parts) false ∧ lk ps' = (lk ps).put (nm ++ dotK) (some (frsL 0 (parts.map bytesP), (frsL 0 (parts.map bytesP)).length))) ∨
     (er = 14 ∧ (arm = 0 → arm' = 0) ∧ lim < (frLen (cutF qs) : Int) + (usedL ps : Int) ∧ CS w' T F M nm ps' c' lim arm' false v qs next size false ∧ lk ps' = lk ps) ∨
     (er = 13 ∧ arm ≠ 0 ∧ CS w' T F M nm ps' c' lim arm' true v qs next size true ∧ ∀ t, t ≠ nm ++ dotT → lk ps' t = lk ps t))
set_option maxRecDepth 100000 in
set_option maxHeartbeats 8000000 in
theorem compact_D (w : World) (T F M : Nat) (nm : ByteArray) (ps : List PF) (clock : Nat) (lim arm : Int) (v : Value) (qs : List PV) (next size : Nat)
    (h : CS w T F M nm ps clock lim arm false v qs next size false) (hl : qs.length ≤ 8000) (hw : ∀ q ∈ qs, wt q ≤ 3000)
    (hnm : nm.size ≤ 1000000) (hfk : fullB (nm ++ dotK) = true) (hft : fullB (nm ++ dotT) = true) (hne : nm ++ dotK ≠ nm ++ dotT) (hnt : lk ps (nm ++ dotT) = none) (hu : usedL ps + frLen (cutF qs) ≤ 4194304) :
    Calls Tryz.prog 17 #[.pointer (some ⟨T, 0, none⟩)] w (CompPost w T F M nm ps lim arm v qs next size) := by
  have H := Lib.hid h
  have HR := Lib.hid (cready_ok w T F M nm v next size lim arm h.sb h.f.fb)
  obtain ⟨Av, cv, rfl, hAv, hcv, hat⟩ := h.at_
  have HC := Lib.hid (copied_D w T F M nm Av cv qs next size ps clock lim arm h.sb h.f h.nT hl hcv hAv (fun W hk => by
    obtain ⟨A', c', h1, -, -, -, h4, -⟩ := row_form (own_kept h.row hk fun k e e2 => h.nv k e e2) fun q hq => PV.ok_own (own_kept (h.own q hq) hk fun k e e2 => h.nq q hq k e e2)
    simp only [Value.slice.injEq] at h1
    obtain ⟨rfl, -, -⟩ := h1
    exact h4) hw hnm hft hnt hu)
  have HNe := Lib.hid hne
  have HNt := Lib.hid hnt
  have hs2 : nm.size + 2 ≤ 9223372036854775807 := by omega
  have hs3 : ¬ 9223372036854775807 < nm.size + 2 := by omega
  clear h hl hw hu hne hnt hAv hcv hat
  go_enter Tryz.func17, Tryz.ntmps17
  go_upto_region 5 with (first
    | (go_at_call 37; refine HR.out.mono ?_; rintro e w ⟨rfl, rfl⟩)
    | (go_at_call 38; refine HC.out.mono ?_; rintro e w1 ⟨n, s, er, rfl, ps1, clk1, arm1, dn1, hw1, hres⟩; have HC1 := Lib.hid (H.out.went hw1); have HM1 : Hid (Moved w T F M ps ps1 w1) := Lib.hid (Moved.went hw1); have HRes := Lib.hid hres; clear hw1 hres))
  have HMet := Lib.hid (met_any w1 T F nm _ next size false er HC1.out.sb)
  obtain ⟨hcase⟩ : Nonempty (PLift ((er = 13 ∧ dn1 = true ∧ arm ≠ 0 ∧ (∀ t, t ≠ nm ++ dotT → lk ps1 t = lk ps t)) ∨ (er = 14 ∧ dn1 = false ∧ (arm = 0 → arm1 = 0) ∧ (∀ t, t ≠ nm ++ dotT → lk ps1 t = lk ps t) ∧ (∃ v, lk ps1 (nm ++ dotT) = some v) ∧ lim < (frLen (cutF qs) : Int) + (usedL ps : Int)) ∨ (er = 0 ∧ dn1 = false ∧ (arm = 0 → arm1 = 0) ∧ ∃ parts, Cut qs parts ∧ n = parts.length ∧ s = frLen parts ∧ lk ps1 = (lk ps).put (nm ++ dotT) (some (frsL 0 (parts.map bytesP), (frsL 0 (parts.map bytesP)).length))))) := ⟨⟨by
    rcases HRes.out with ⟨h1, h2, (⟨h3, h4, h5⟩ | ⟨h3, h4, h5, h6⟩)⟩ | ⟨h1, h2, h3, h4⟩ | ⟨h1, h2, h3, h4⟩
    · exact .inl ⟨h3, h4, h5, h1⟩
    · exact .inr (.inl ⟨h3, h4, h2, h1, h5, h6⟩)
    · exact .inr (.inr ⟨h1, h2, h3, h4⟩)
    · exact .inl ⟨h1, h2, h3, h4⟩⟩⟩
  clear HRes
  rcases hcase.down with ⟨rfl, rfl, ha, hd⟩ | ⟨rfl, rfl, ha, hd, hv, hfull⟩ | ⟨rfl, rfl, ha, parts, hcut, rfl, rfl, hd⟩
  · have HA := Lib.hid ha
    have HD := Lib.hid hd
    clear ha hd hcase
    go_wp2_with (go_at_call 39; refine HMet.out.mono ?_; rintro e w2 ⟨rfl, hsb, hk⟩; have HC2 := Lib.hid (HC1.out.turn (by simpa using hsb) hk); have HM2 := Lib.hid (HM1.out.trans (Moved.turn hk)); clear hsb hk)
    go_ret
    exact ⟨13, ps1, clk1, arm1, rfl, HM2.out, .inr (.inr ⟨rfl, HA.out, HC2.out, HD.out⟩)⟩
  · have HA := Lib.hid ha
    have HD := Lib.hid hd
    have HFu := Lib.hid hfull
    obtain ⟨fv, hfv⟩ := hv
    have HFv := Lib.hid hfv
    clear ha hd hcase hfull hfv
    go_upto_region 7 with (go_at_call 39; refine HMet.out.mono ?_; rintro e w2 ⟨rfl, hsb, hk⟩; have HC2 := Lib.hid (HC1.out.turn (dead' := false) (by simpa using hsb) hk); have HM2 := Lib.hid (HM1.out.trans (Moved.turn hk)); clear hsb hk)
    have d0 := HC2.out.sb.c0
    have d1 := HC2.out.sb.c1
    have HC2d := Lib.hid (HC2.out.stay (Kept.refl (fun _ => False) w2).drew)
    have HM2d := Lib.hid (HM2.out.trans (Moved.stay (Kept.refl (fun _ => False) w2).drew))
    have HRm : Hid (Calls Tryz.prog 26 #[.pointer (some ⟨F, 0, none⟩), .string (nm ++ ⟨#[46, 116]⟩)] w2.drew fun e w' => ∃ er, e = .returned (.int .i64 er) ∧ OpR w2.drew F M ps1 lim arm1 ((lk ps1).put (nm ++ dotT) none) er w') := Lib.hid ((remove_D (nm ++ dotT) fv HC2d.out.f HFv.out).mono fun e w' h => opR_of h)
    go_region_held3 (fun W => W.cell? ⟨T, 0, none⟩ = some (.pointer (some ⟨F, 0, none⟩)) ∧ W.cell? ⟨T, 1, none⟩ = some (.string nm)) (first | assumption | exact ⟨d0, d1⟩ | exact ⟨HSB3.out.c0, HSB3.out.c1⟩ | exact ⟨HSB4.out.c0, HSB4.out.c1⟩ | simp [*]) (first
      | (go_at_call 39; refine (met_any w3 T F nm _ next size false er3 HSB3.out).mono ?_; rintro e w4 ⟨rfl, hsb, hk⟩; have HSB4 := Lib.hid hsb; have HKT4 := Lib.hid hk; clear hsb hk)
      | (go_at_call 26; refine HRm.out.mono ?_; rintro e w3 ⟨er3, rfl, hop⟩; have HOp := Lib.hid hop; have HSB3 : Hid (SB w3 T F nm (.slice Av qs.length cv) next size false) := Lib.hid (by obtain ⟨ps', c', (⟨-, -, hw, -⟩ | ⟨-, -, hw, -⟩)⟩ := hop; exact HC2d.out.sb.kept hw.kept HC2d.out.nT; exact HC2d.out.sb.kept hw.kept HC2d.out.nT); clear hop))
    go_upto_region 8 with fail
    obtain ⟨ps3, clk3, hop⟩ := HOp.out
    rcases hop with ⟨rfl, ha, hw, hd⟩ | ⟨rfl, ha, hw, hd⟩
    · have HC4 := Lib.hid ((HC2d.out.went hw).turn (by simpa using HSB4.out) HKT4.out)
      have HM4 := Lib.hid ((HM2d.out.trans (Moved.went hw)).trans (Moved.turn HKT4.out))
      have HA3 := Lib.hid ha
      have HD3 := Lib.hid hd
      clear ha hw hd
      go_wp2
      go_ret
      exact ⟨13, ps3, clk3, _, rfl, HM4.out, .inr (.inr ⟨rfl, fun e => by have := HA.out e; have := HA3.out; omega, HC4.out, fun t ht => by rw [HD3.out]; exact HD.out t ht⟩)⟩
    · have HC4 := Lib.hid ((HC2d.out.went hw).turn (dead' := false) (by simpa using HSB4.out) HKT4.out)
      have HM4 := Lib.hid ((HM2d.out.trans (Moved.went hw)).trans (Moved.turn HKT4.out))
      have HD3 := Lib.hid hd
      clear ha hw hd
      go_wp2
      go_ret
      refine ⟨14, ps3, clk3, _, rfl, HM4.out, .inr (.inl ⟨rfl, fun e => decA0 (HA.out e), HFu.out, HC4.out, ?_⟩)⟩
      rw [HD3.out]
      funext t
      unfold Disk.put
      by_cases ht : t = nm ++ dotT
      · rw [if_pos ht, ht, HNt.out]
      · rw [if_neg ht]; exact HD.out t ht
  · have HA := Lib.hid ha
    have HD := Lib.hid hd
    have HCut := Lib.hid hcut
    clear ha hd hcase hcut
    obtain ⟨n, hn⟩ : ∃ n, n = parts.length := ⟨_, rfl⟩
    obtain ⟨s, hs⟩ : ∃ s, s = frLen parts := ⟨_, rfl⟩
    rw [← hn, ← hs]
    have Hn := Lib.hid hn
    have Hs := Lib.hid hs
    clear hn hs
    go_upto_region 11 with (go_at_call 39; refine HMet.out.mono ?_; rintro e w2 ⟨rfl, hsb, hk⟩; have HC2 := Lib.hid (HC1.out.turn (dead' := false) (by simpa using hsb) hk); have HM2 := Lib.hid (HM1.out.trans (Moved.turn hk)); clear hsb hk)
    have d0 := HC2.out.sb.c0
    have d1 := HC2.out.sb.c1
    have HC2d := Lib.hid (HC2.out.stay (Kept.refl (fun _ => False) w2).drew)
    have HM2d := Lib.hid (HM2.out.trans (Moved.stay (Kept.refl (fun _ => False) w2).drew))
    have HRn : Hid (Calls Tryz.prog 40 #[.pointer (some ⟨F, 0, none⟩), .string (nm ++ ⟨#[46, 116]⟩), .string (nm ++ ⟨#[46, 107]⟩)] w2.drew fun e w' => ∃ er, e = .returned (.int .i64 er) ∧ OpR w2.drew F M ps1 lim arm1 (((lk ps1).put (nm ++ dotT) none).put (nm ++ dotK) (some (frsL 0 (parts.map bytesP), (frsL 0 (parts.map bytesP)).length))) er w') := Lib.hid ((rename_D (nm ++ dotT) (nm ++ dotK) (frsL 0 (parts.map bytesP), (frsL 0 (parts.map bytesP)).length) HC2d.out.f (by rw [HD.out]; exact Disk.put_same _ _ _) HNe.out (by rw [size_dotK]; omega) hfk).mono fun e w' h => opR_of h)
    go_region_held3 (fun W => W.cell? ⟨T, 0, none⟩ = some (.pointer (some ⟨F, 0, none⟩)) ∧ W.cell? ⟨T, 1, none⟩ = some (.string nm)) (first | assumption | exact ⟨d0, d1⟩ | exact ⟨HSB3.out.c0, HSB3.out.c1⟩ | exact ⟨HSB4.out.c0, HSB4.out.c1⟩ | simp [*]) (first
      | (go_at_call 39; refine (met_any w3 T F nm _ next size false er3 HSB3.out).mono ?_; rintro e w4 ⟨rfl, hsb, hk⟩; have HSB4 := Lib.hid hsb; have HKT4 := Lib.hid hk; clear hsb hk)
      | (go_at_call 40; refine HRn.out.mono ?_; rintro e w3 ⟨er3, rfl, hop⟩; have HOp := Lib.hid hop; have HSB3 : Hid (SB w3 T F nm (.slice Av qs.length cv) next size false) := Lib.hid (by obtain ⟨ps', c', (⟨-, -, hw, -⟩ | ⟨-, -, hw, -⟩)⟩ := hop; exact HC2d.out.sb.kept hw.kept HC2d.out.nT; exact HC2d.out.sb.kept hw.kept HC2d.out.nT); clear hop))
    go_upto_region 12 with fail
    obtain ⟨ps3, clk3, hop⟩ := HOp.out
    rcases hop with ⟨rfl, ha, hw, hd⟩ | ⟨rfl, ha, hw, hd⟩
    · have HC4 := Lib.hid ((HC2d.out.went hw).turn (by simpa using HSB4.out) HKT4.out)
      have HM4 := Lib.hid ((HM2d.out.trans (Moved.went hw)).trans (Moved.turn HKT4.out))
      have HA3 := Lib.hid ha
      have HD3 := Lib.hid hd
      clear ha hw hd
      go_wp2
      go_ret
      exact ⟨13, ps3, clk3, _, rfl, HM4.out, .inr (.inr ⟨rfl, fun e => by have := HA.out e; have := HA3.out; omega, HC4.out, fun t ht => by rw [HD3.out, HD.out, Disk.put_ne _ _ ht]⟩)⟩
    · have HC4 := Lib.hid ((HC2d.out.went hw).turn (dead' := false) (by simpa using HSB4.out) HKT4.out)
      have HM4 := Lib.hid ((HM2d.out.trans (Moved.went hw)).trans (Moved.turn HKT4.out))
      have HD3 := Lib.hid hd
      clear ha hw hd d0 d1
      have t3 := HC4.out.sb.c3
      have t3f := HC4.out.sb.fz 3
      have t4 := HC4.out.sb.c4
      have t4f := HC4.out.sb.fz 4
      go_wp2
      go_ret
      have hsb9 : SB ((w4.setCell ⟨T, 3, none⟩ (.int .u64 (n : Nat))).setCell ⟨T, 4, none⟩ (.int .i64 (s : Nat))) T F nm (.slice Av qs.length cv) n s false := (HC4.out.sb.s3 n).s4 s
      have hk9 : Kept (fun k => k = T) w4 ((w4.setCell ⟨T, 3, none⟩ (.int .u64 (n : Nat))).setCell ⟨T, 4, none⟩ (.int .i64 (s : Nat))) := (kF w4 T 3 _).trans' (kF _ T 4 _)
      refine ⟨0, ps3, clk3, _, rfl, HM4.out.trans (Moved.turn hk9), .inl ⟨rfl, fun e => decA0 (HA.out e), parts, HCut.out, ?_, ?_⟩⟩
      · rw [← Hn.out, ← Hs.out]
        exact HC4.out.turn hsb9 hk9
      · rw [HD3.out, HD.out, put_put, put_id HNt.out]
end Go.Proofs.YtcifhfdjigfeiaaGreatDoor
end

/-! couranthelp: Seq over the names, of at most so many. -/
section
set_option linter.unusedVariables false
set_option linter.unusedSimpArgs false
namespace Go.Proofs.YtcifhfdjigfeiaaGreatDoor
open Go.RowKit Go.Sort
attribute [local go_sem] Oper.semAt_some

theorem own_weak {w : World} {b b' : Nat} {e : TypeId} {size n : Nat} {v : Value} {xs : List Value} (hb : b' ≤ b) (h : w.ownsRow b e size v n xs) : w.ownsRow b' e size v n xs :=
  ⟨h.1, h.2.imp id fun ⟨g, cap, cur, a1, a2, a3⟩ => ⟨g, cap, cur, a1, Nat.le_trans hb a2, a3⟩⟩
theorem infoStr : (Tryz.prog.info? 9).map (fun i => (i.zero, i.size, i.bytes)) = some (some (.string ⟨#[]⟩), 1, 16) := by kernel_rfl
structure SqI (q : Nat) (w W : World) (B D : Nat) (pre : List (List UInt8)) : Prop where
  b0 : Boxed W B 3 (.int .i64 (q : Nat))
  b1 : Boxed W (B + 1) 36 (.slice none 0 0)
  b2 : Boxed W (B + 2) 4 (.bool false)
  b3 : ∃ v, Boxed W (B + 3) 36 v ∧ W.ownsRow (D + 2) 9 1 v pre.length (pre.map encStr)
  kept : Kept (fun _ => False) w W
theorem SqI.carry {q : Nat} {w W W' : World} {B D : Nat} {pre : List (List UInt8)} (h : SqI q w W B D pre) (hk : Kept (fun k => False ∨ k = D ∨ k = D + 1) W W') (hB : B = w.heap.size) (hD : B + 4 ≤ D) : SqI q w W' B D pre := by
  have no : ∀ k, k < D → ¬ (False ∨ k = D ∨ k = D + 1) := by rintro k hk (h | h | h) <;> first | exact h.elim | omega
  obtain ⟨v, hv, ho⟩ := h.b3
  refine ⟨hk.heap h.b0 (no _ (by omega)), hk.heap h.b1 (no _ (by omega)), hk.heap h.b2 (no _ (by omega)), ⟨v, hk.heap hv (no _ (by omega)), own_kept ho hk fun k e => ?_⟩, h.kept.trans hk fun i hi hm => absurd hm (no i (by omega))⟩
  have := own_ge ho k e
  rintro (h | h | h) <;> first | exact h.elim | omega
set_option maxRecDepth 100000 in
set_option maxHeartbeats 4000000 in
theorem seq_any (q : Nat) (w : World) (B0 n0 c0 : Nat) (A0 : Option Addr) (ns : List (List UInt8)) (hb0 : Boxed w B0 36 (.slice A0 n0 c0)) (hn0 : n0 = ns.length) (hl : ns.length ≤ q) (hq9 : q ≤ 1000000) (hs : Ss w A0 ns) (hA : ∀ ad, A0 = some ad → ad.block < w.heap.size) :
    Calls Tryz.prog 13 #[.func (.func 58) #[] #[.pointer (some ⟨B0, 0, none⟩)], .int .i64 (q : Nat)] w fun e w' => ∃ v, e = .returned (.tuple #[v, .bool true]) ∧ w'.ownsRow w.heap.size 9 1 v ns.length (ns.map encStr) ∧ Kept (fun _ => False) w w' := by
  refine calls_of_marks Tryz.func13 rfl ?_
  simp only [Tryz.ntmps13, List.size_toArray, List.length_cons, List.length_nil, Nat.reduceAdd, Nat.reduceSub, Array.replicate_succ, Array.replicate_zero, List.push_toArray, List.append_toArray, List.nil_append, List.cons_append]
  obtain ⟨i0, hi, hz0, hz1, hz2⟩ := info_parts infoStr
  have hlt0 := (Array.getElem?_eq_some_iff.1 hb0).1
  have Hlt := Lib.hid hlt0
  have Hb0 := Lib.hid hb0
  have HS := Lib.hid hs
  have HA := Lib.hid hA
  have Hn0 := Lib.hid hn0
  have Hl := Lib.hid hl
  clear hlt0 hb0 hs hA hn0 hl
  have hne : ∀ W, (binOp .eql 40 (.func (.func 58) #[] #[.pointer (some ⟨B0, 0, none⟩)]) .nilFunc).run Tryz.prog W = .ok (.bool false) W := fun W => by kernel_rfl
  go_wp2_with fail
  obtain ⟨W0, hW0⟩ : ∃ W0, W0 = (((w.alloc (.cells #[.int .i64 (q : Nat)] 3)).alloc (.cells #[.slice none 0 0] 36)).alloc (.cells #[.bool false] 4)).alloc (.cells #[.slice none 0 0] 36) := ⟨_, rfl⟩
  rw [← hW0]
  obtain ⟨B, hB⟩ : ∃ B, B = w.heap.size := ⟨_, rfl⟩
  have hsz : W0.heap.size = B + 4 := by rw [hW0, hB]; simp
  have hkp : Kept (fun _ => False) w W0 := by rw [hW0]; exact ((((Kept.refl _ w).alloc _).alloc _).alloc _).alloc _
  have h0 : Boxed W0 B 3 (.int .i64 (q : Nat)) := by
    have := (((Boxed.new w 3 (.int .i64 (q : Nat))).alloc (.cells #[.slice none 0 0] 36)).alloc (.cells #[.bool false] 4)).alloc (.cells #[.slice none 0 0] 36)
    rw [hW0, hB]; simpa using this
  have h1 : Boxed W0 (B + 1) 36 (.slice none 0 0) := by
    have := ((Boxed.new (w.alloc (.cells #[.int .i64 (q : Nat)] 3)) 36 (.slice none 0 0)).alloc (.cells #[.bool false] 4)).alloc (.cells #[.slice none 0 0] 36)
    rw [hW0, hB]; simpa using this
  have h2 : Boxed W0 (B + 2) 4 (.bool false) := by
    have := (Boxed.new ((w.alloc (.cells #[.int .i64 (q : Nat)] 3)).alloc (.cells #[.slice none 0 0] 36)) 4 (.bool false)).alloc (.cells #[.slice none 0 0] 36)
    rw [hW0, hB]; simpa using this
  have h3 : Boxed W0 (B + 3) 36 (.slice none 0 0) := by
    have := Boxed.new (((w.alloc (.cells #[.int .i64 (q : Nat)] 3)).alloc (.cells #[.slice none 0 0] 36)).alloc (.cells #[.bool false] 4)) 36 (.slice none 0 0)
    rw [hW0, hB]; simpa using this
  clear hW0
  rw [← hB]
  have HBw := Lib.hid hB
  clear hB
  have hit := values_iter B0 n0 c0 A0 ns W0 (hkp.heap Hb0.out (by simp)) Hn0.out (by have := Hn0.out; have := Hl.out; omega) (HS.out.same fun k ⟨ad, e, e2⟩ => hkp.block k (by rw [← e2]; exact HA.out ad e) (by simp)) (fun ad e => by have := HA.out ad e; have := hkp.size; omega)
  have Hsz := Lib.hid hsz
  have hi0 : SqI q w W0 B W0.heap.size [] := ⟨h0, h1, h2, ⟨_, h3, World.ownsRow_nil _ _ _ _⟩, hkp⟩
  clear h0 h1 h2 h3 hkp hsz
  refine wp_range (gf := 58) rfl (enters_of Tryz.func58 (by kernel_rfl) rfl) hit (fun x => rfl) (fun k h => h.elim) (fun k ⟨ad, e, e2⟩ => by rw [← e2]; have := HA.out ad e; have := hi0.kept.size; omega)
    (fun pre W => SqI q w W B W0.heap.size pre)
    (fun c pre W => False)
    (fun pre A C h hk => h.carry hk HBw.out (by have := Hsz.out; omega))
    (fun c pre A C h hk => h.elim) hi0 (fun x => { tmps := #[.func (.func 58) #[] #[.pointer (some ⟨B0, 0, none⟩)], .int .i64 (q : Nat), undef, .pointer (some ⟨B, 0, none⟩), .pointer (some ⟨B + 1, 0, none⟩), .pointer (some ⟨B + 1 + 1, 0, none⟩), .pointer (some ⟨B + 1 + 1 + 1, 0, none⟩), .string ⟨x.toArray⟩, .func (.func 58) #[] #[.pointer (some ⟨B0, 0, none⟩)], .bool false, .func (.func 58) #[] #[.pointer (some ⟨B0, 0, none⟩)], .string ⟨x.toArray⟩, undef, undef, undef, undef, undef, undef, undef, undef, undef], defers := [] }) ?assign ?body ?done ?stop
  case assign =>
    intro l x W K hK
    gi_wp2
    exact hK
  case body =>
    rintro l pre x post W hxs hI hsz2
    obtain ⟨v, hv, ho⟩ := hI.b3
    obtain ⟨k, hk⟩ : ∃ k, k = pre.length := ⟨_, rfl⟩
    rw [← hk] at ho
    have hkl : k + 1 ≤ q := by have := congrArg List.length hxs; simp at this; have := Hl.out; omega
    have c0 := hI.b0.cell
    have c3 := hv.cell
    have f3 := hv.frozen
    have hw0 := Hsz.out
    have HI := Lib.hid hI
    have HV := Lib.hid hv
    have HO := Lib.hid ho
    have Hk := Lib.hid hk
    have HSz2 := Lib.hid hsz2
    have hk9 : ¬ (q : Int) < (k : Int) + 1 := by omega
    have hge : ∀ q, v.ownBlock = some q → W0.heap.size + 2 ≤ q := own_ge ho
    have HGe := Lib.hid hge
    have Hkl := Lib.hid hkl
    clear hI hv ho hk hit hi0 hsz2 hge hkl hxs hw0
    gi_wp2_with (gi_at_builtin; refine wpListIn_append_own _ rfl _ _ 36 rfl (W0.heap.size + 2) 9 i0 (.string ⟨#[]⟩) 1 16 Tryz.underlying36 hi hz0 hz1 hz2 rfl (by decide) _ k _ rfl (own_kept HO.out ((Kept.refl (fun _ => False) W).alloc _) (by simp)) _ 1 1 [.string ⟨x.toArray⟩] rfl rfl ((cs_new W [.string ⟨x.toArray⟩] 9).2 _ rfl) (by simp [Value.oneCell']) (by have := Hkl.out; unfold maxLen; omega) (by have := Hkl.out; omega) (by have := HSz2.out; simp; omega) ?_; intro v' w1 hown hgrow hnil; obtain ⟨A', c', rfl⟩ := own_slice hown; have HN := Lib.hid hown; have HK1 : Hid (Kept (fun q => v.ownBlock = some q) W w1) := Lib.hid ((((Kept.refl (fun q => v.ownBlock = some q) W).alloc _)).grown hgrow (fun q e _ => e)); have g0 := HK1.out.cell c0 (fun e => by have h9 : W0.heap.size + 2 ≤ B := HGe.out _ e; have := Hsz.out; omega); have HB3 : Hid (Boxed w1 (B + 3) 36 _) := Lib.hid (HK1.out.heap HV.out (fun e => by have := HGe.out _ e; have := Hsz.out; omega)); have g3 := Boxed.cell HB3.out; have fz3 := Boxed.frozen HB3.out; have hlt9 : B < w1.heap.size := World.block_lt_of_cell? w1 ⟨B, 0, none⟩ g0; clear hown hgrow hnil)
    refine ⟨⟨?_, ?_⟩, ?_⟩
    · have := HK1.out.size; simpa using this
    · intro q hq
      have hq3 : q ≠ B + 3 := by
        have := Hsz.out
        have hB := HBw.out
        rcases hq with ⟨ad, e, e2⟩ | hq | hq
        · have := HA.out ad e; omega
        · omega
        · omega
      have hqo : ¬ v.ownBlock = some q := fun e => by
        have h1 := HGe.out _ e
        have := Hsz.out
        have hB := HBw.out
        rcases hq with ⟨ad, e3, e2⟩ | hq | hq
        · have := HA.out ad e3; omega
        · omega
        · omega
      have hql : q < W.heap.size := by
        have := HSz2.out
        have := Hsz.out
        have hB := HBw.out
        rcases hq with ⟨ad, e, e2⟩ | hq | hq
        · have := HA.out ad e; omega
        · omega
        · omega
      refine ((kF w1 (B + 1 + 1 + 1) 0 _).block q (Nat.lt_of_lt_of_le hql HK1.out.size) (by omega)).trans (HK1.out.block q hql hqo)
    · have hk3 := kF w1 (B + 1 + 1 + 1) 0 (.slice A' (k + 1) c')
      have hkk : Kept (fun q => v.ownBlock = some q ∨ q = B + 3) W (w1.setCell ⟨B + 1 + 1 + 1, 0, none⟩ (.slice A' (k + 1) c')) := (HK1.out.mono fun q _ e => .inl e).trans' (hk3.mono fun q _ e => .inr e)
      have no : ∀ q, q < B + 3 → ¬ (v.ownBlock = some q ∨ q = B + 3) := fun q hq h => h.elim (fun e => by have := HGe.out _ e; have := Hsz.out; omega) (fun e => by omega)
      refine ⟨hkk.heap HI.out.b0 (no _ (by omega)), hkk.heap HI.out.b1 (no _ (by omega)), hkk.heap HI.out.b2 (no _ (by omega)), ⟨_, HB3.out.set _, ?_⟩, HI.out.kept.trans hkk fun q hq h => absurd h (no q (by have := HBw.out; omega))⟩
      have := HN.out
      rw [Hk.out, ← List.map_singleton (f := encStr), ← List.map_append] at this
      rw [List.length_append, List.length_singleton]
      rw [← Hk.out] at this ⊢
      refine own_kept this hk3 fun q e e2 => ?_
      have := own_ge this q e
      have := Hsz.out
      omega
  case done =>
    rintro W hI hD
    obtain ⟨v, hv, ho⟩ := hI.b3
    obtain ⟨Av, cv, rfl⟩ := own_slice ho
    have c1 := hI.b1.cell
    have c2 := hI.b2.cell
    have c3 := hv.cell
    have f1 := hI.b1.frozen
    have f2 := hI.b2.frozen
    have HD := Lib.hid hD
    have HI := Lib.hid hI
    have HO := Lib.hid ho
    clear hI hv ho hD hit hi0
    go_wp2
    have HBB := HBw.out
    have hW0 := Hsz.out
    have hge := own_ge HO.out
    refine leave_mark ((Below.heap_setCell _ _ _ _ (by simp; omega)).trans ((Below.heap_setCell _ _ _ _ (by simp; omega)).trans HD.out)) (results_cell2 rfl (fun w => by kernel_rfl) (fun w => by kernel_rfl) rfl rfl (v := .slice Av ns.length cv) (u := .bool true) ?_ ?_) ⟨_, rfl, ?_, ?_⟩
    · have hb : Boxed ((W.setCell ⟨B + 1, 0, none⟩ (.slice Av ns.length cv)).setCell ⟨B + 1 + 1, 0, none⟩ (.bool true)) (B + 1) 36 (.slice Av ns.length cv) := (kF _ (B + 1 + 1) 0 _).heap (HI.out.b1.set _) (by omega)
      exact Boxed.cell ((putObj_kept _ W0.heap.size _).heap hb (by omega))
    · have hb2 : Boxed (W.setCell ⟨B + 1, 0, none⟩ (.slice Av ns.length cv)) (B + 1 + 1) 4 (.bool false) := (kF W (B + 1) 0 _).heap HI.out.b2 (by omega)
      exact Boxed.cell ((putObj_kept _ W0.heap.size _).heap (hb2.set (.bool true)) (by omega))
    · have h1 := own_kept HO.out (kF W (B + 1) 0 (.slice Av ns.length cv)) fun q e e2 => by have := hge q e; omega
      have h2 := own_kept h1 (kF _ (B + 1 + 1) 0 (.bool true)) fun q e e2 => by have := hge q e; omega
      exact own_weak (by omega) (own_kept h2 (putObj_kept _ W0.heap.size _) fun q e e2 => by have := hge q e; omega)
    · exact ((HI.out.kept.setCell (p := ⟨B + 1, 0, none⟩) (fun h => by simp at h; omega) _).setCell (p := ⟨B + 1 + 1, 0, none⟩) (fun h => by simp at h; omega) _).putObj (fun h => by omega) _
  case stop =>
    rintro c pre W hpre h
    exact h.elim
end Go.Proofs.YtcifhfdjigfeiaaGreatDoor
end

/-! couranthelp: Spoil, In; Start of files that are up. -/
section
set_option linter.unusedVariables false
set_option linter.unusedSimpArgs false
namespace Go.Proofs.YtcifhfdjigfeiaaGreatDoor
open Go.RowKit

/-- A block of bytes, whatever they are. -/
def Raw (w : World) (B n : Nat) : Prop := ∃ cur : Array Value, w.heap[B]? = some (.cells cur 5 (0, 0)) ∧ n ≤ cur.size ∧ ∀ j : Nat, j < n → ∃ z : Int, cur[j]? = some (.int .u8 z)
theorem Raw.cell {w : World} {B n : Nat} (h : Raw w B n) (j : Nat) (hj : j < n) : ∃ z : Int, w.cell? ⟨B, j, none⟩ = some (.int .u8 z) := by
  obtain ⟨cur, h1, h2, h3⟩ := h
  obtain ⟨z, hz⟩ := h3 j hj
  exact ⟨z, by simp [World.cell?, h1, hz]⟩
theorem Raw.frozen {w : World} {B n : Nat} (h : Raw w B n) (j : Nat) : w.frozen? ⟨B, j, none⟩ = false := by
  obtain ⟨cur, h1, h2, h3⟩ := h
  simp [World.frozen?, h1]
theorem Raw.set {w : World} {B n : Nat} (h : Raw w B n) (j : Nat) (z : Int) : Raw (w.setCell ⟨B, j, none⟩ (.int .u8 z)) B n := by
  obtain ⟨cur, h1, h2, h3⟩ := h
  refine ⟨cur.setIfInBounds j (.int .u8 z), ?_, by simpa using h2, fun i hi => ?_⟩
  · simp only [World.setCell, Array.getElem?_modify, if_true, h1]; rfl
  · by_cases hij : j = i
    · subst hij
      exact ⟨z, by rw [Array.getElem?_setIfInBounds_self_of_lt (by omega)]⟩
    · obtain ⟨y, hy⟩ := h3 i hi
      exact ⟨y, by rw [Array.getElem?_setIfInBounds_ne hij]; exact hy⟩
theorem Raw.of_own {w : World} {base n g cap : Nat} {xs : List UInt8} (h : w.ownsRow base 5 1 (.slice (some ⟨g, 0, none⟩) n cap) n (xs.map bv)) : Raw w g n := by
  rcases h.2 with ⟨h1, _⟩ | ⟨g', cap', cur, h1, h2, h3, h4, h5, h6, h7⟩
  · cases h1
  · cases h1
    refine ⟨cur, h3, by omega, fun j hj => ?_⟩
    have hl := h.1
    simp at hl
    have hu : (xs.map bv)[j]? = some (bv (xs[j]'(by omega))) := by rw [List.getElem?_map, List.getElem?_eq_getElem (by omega)]; rfl
    rw [← h7, List.getElem?_take_of_lt (by omega)] at hu
    exact ⟨_, by simpa [bv] using hu⟩
set_option maxRecDepth 100000 in
set_option maxHeartbeats 2000000 in
theorem spoil_some (w : World) (B n c : Nat) (hn : n ≤ 1000000000) (h : Raw w B n) :
    Calls Tryz.prog 22 #[.slice (some ⟨B, 0, none⟩) n c] w fun e w' => e = .returned (.tuple #[]) ∧ Kept (fun k => k = B) w w' := by
  have H := Lib.hid h
  clear h
  have hn9 : (n : Int) ≤ 1000000000 := by omega
  go_enter Tryz.func22, Tryz.ntmps22
  go_wp2_with fail
  go_loopw [2] (fun i wr => ∃ k : Nat, k ≤ n ∧ i = .int .i64 k ∧ Hid (Raw wr B n) ∧ Hid (Kept (fun k => k = B) w wr)) (fun i _ => n - (intOf i).toNat)
  case atStart => exact ⟨0, by omega, rfl, H, Lib.hid (Kept.refl _ _)⟩
  case round =>
    obtain ⟨k, hk, rfl, hR, hK⟩ := hrel
    by_cases hlt : k < n
    · have hk9 : (k : Int) < (n : Int) := by omega
      obtain ⟨z, hc⟩ := hR.out.cell k hlt
      have hf := hR.out.frozen k
      go_wp2
      go_roundw
      case rel => exact ⟨k + 1, by omega, by go_num, Lib.hid (hR.out.set k _), Lib.hid (hK.out.trans' (kF wr B k _))⟩
      case measure => simp [intOf]; omega
    · obtain rfl : k = n := by omega
      go_wp2
      go_end0
      exact ⟨rfl, hK.out⟩
set_option maxHeartbeats 2000000 in
theorem spoil_none (w : World) (A : Option Addr) (c : Nat) :
    Calls Tryz.prog 22 #[.slice A 0 c] w fun e w' => e = .returned (.tuple #[]) ∧ w' = w := by
  go_enter Tryz.func22, Tryz.ntmps22
  go_wp2_with fail
  go_loop [2] (fun i => i = .int .i64 0) (fun _ => 0)
  case atStart => rfl
  case round =>
    obtain rfl := hrel
    go_wp2
    go_end0
    exact ⟨rfl, rfl⟩
/-- Spoil of bytes of the call's own. -/
theorem spoil_own (w : World) (base n : Nat) (v : Value) (xs : List UInt8) (hn : n ≤ 1000000000) (h : w.ownsRow base 5 1 v n (xs.map bv)) :
    Calls Tryz.prog 22 #[v] w fun e w' => e = .returned (.tuple #[]) ∧ Kept (fun k => v.ownBlock = some k) w w' := by
  rcases h.2 with ⟨rfl, rfl⟩ | ⟨g, cap, cur, rfl, _⟩
  · exact (spoil_none w none 0).mono fun e w' ⟨he, hw⟩ => ⟨he, by rw [hw]; exact Kept.refl _ _⟩
  · refine (spoil_some w g n cap hn (Raw.of_own h)).mono fun e w' ⟨he, hw⟩ => ⟨he, hw.mono fun k _ e => by rw [e]; rfl⟩

set_option maxHeartbeats 1000000 in
theorem start_up (w : World) (F M : Nat) (ps : List PF) (clock : Nat) (lim arm : Int) (h : FilesAt w F M ps clock lim arm false) :
    Calls Tryz.prog 8 #[.pointer (some ⟨F, 0, none⟩)] w fun e w' => e = .returned (.tuple #[]) ∧ Went w F M ps ps clock lim 0 false w' := by
  have H := Lib.hid h
  have h3 := FB.c3 h.fb
  have h2 := FB.c2 h.fb
  have f3 := FB.fz h.fb 3
  have f2 := FB.fz h.fb 2
  clear h
  go_enter Tryz.func8, Tryz.ntmps8
  go_wp2
  go_end0
  exact ⟨rfl, H.out.own (lim' := lim) (arm' := 0) (dn' := false) ((kF w F 3 _).trans' (kF _ F 2 _)) (FB.s2 (FB.s3 (show FB w F M lim arm false from H.out.fb) false) 0) H.out.lim0 (by omega), ((kF w F 3 _).trans' (kF _ F 2 _)).ofF, fun k hk => .inl hk⟩
set_option maxHeartbeats 2000000 in
theorem in_no (w : World) (A : Option Addr) (n c : Nat) (ns : List (List UInt8)) (s : ByteArray) (hn : n = ns.length) (hn9 : n ≤ 1000000) (h : Ss w A ns) (hs : ∀ x ∈ ns, (⟨x.toArray⟩ : ByteArray) ≠ s) : Calls Tryz.prog 15 #[.slice A n c, .string s] w fun e w' => e = .returned (.bool false) ∧ w' = w := by
  have H := Lib.hid h
  have Hn := Lib.hid hn
  have Hs := Lib.hid hs
  have hn8 : (n : Int) ≤ 1000000 := by omega
  clear h hn hs
  go_enter Tryz.func15, Tryz.ntmps15
  go_wp2_with fail
  go_loopw [5] (fun i wr => ∃ k : Nat, k ≤ n ∧ i = .int .i64 k ∧ Hid (wr = w)) (fun i _ => n - (intOf i).toNat)
  case atStart => exact ⟨0, by omega, rfl, Lib.hid rfl⟩
  case round =>
    obtain ⟨k, hk, rfl, hw⟩ := hrel
    obtain rfl := hw.out
    by_cases hlt : k < n
    · have hk9 : (k : Int) < (n : Int) := by omega
      obtain ⟨x, hx⟩ : ∃ x, ns[k]? = some x := ⟨_, List.getElem?_eq_getElem (by have := Hn.out; omega)⟩
      obtain ⟨ad, rfl, hc⟩ := H.out k x hx
      have hne := Hs.out x (List.mem_of_getElem? hx)
      have heq := str_eq ⟨x.toArray⟩ s
      rw [decide_eq_false hne] at heq
      have heq2 : (x == s.toList) = false := by simpa using heq
      clear hx hne heq
      go_wp2
      go_roundw
      case rel => exact ⟨k + 1, by omega, by go_num, Lib.hid trivial⟩
      case measure => simp [intOf]; omega
    · obtain rfl : k = n := by omega
      go_wp2
      go_ret
      exact ⟨rfl, rfl⟩
end Go.Proofs.YtcifhfdjigfeiaaGreatDoor
end
