import Derived.Test.YtcifhfdjigfeiaaGreatDoorZn
/-! compact.Compact, where there is room. -/
section
set_option linter.unusedVariables false
set_option linter.unusedSimpArgs false
namespace Go.Proofs.YtcifhfdjigfeiaaGreatDoor
open Go.RowKit

theorem SAt.psAt {Z : Nat → Prop} {w W : World} {T F M : Nat} {nm : ByteArray} {ps : List PF} {clock : Nat} {lim : Int} {A : Option Addr} {n c : Nat} {qs : List PV} {next size : Nat} (h : SAt Z w T F M nm ps clock lim (.slice A n c) qs next size) (hk : Kept (fun k => k ∈ foot F M ps) w W) : PsAt W A qs := by
  obtain ⟨A', c', h1, -, -, -, h4, -⟩ := row_form (own_kept h.row hk fun k e e2 => h.nv k e e2) fun q hq => PV.ok_own (own_kept (h.own q hq) hk fun k e e2 => h.nq q hq k e e2)
  simp only [Value.slice.injEq] at h1
  obtain ⟨rfl, -, -⟩ := h1
  exact h4
set_option maxRecDepth 100000 in
set_option maxHeartbeats 8000000 in
theorem ccompact_ok (Z : Nat → Prop) (w : World) (T F M : Nat) (nm : ByteArray) (ps : List PF) (clock : Nat) (lim : Int) (v : Value) (qs : List PV) (next size : Nat) (d : List UInt8) (made : Bool)
    (h : SAt Z w T F M nm ps clock lim v qs next size) (one : OneK ps (nm ++ dotK) d made) (hL : ∀ k, w.heap.size ≤ k → Z k) (hl : qs.length ≤ 8000) (hw : ∀ q ∈ qs, wt q ≤ 3000)
    (hnm : nm.size ≤ 1000000) (hfk : fullB (nm ++ dotK) = true) (hft : fullB (nm ++ dotT) = true) (hne : nm ++ dotK ≠ nm ++ dotT) (hd : (d.length : Int) ≤ lim) (hfit : ∀ parts, Cut qs parts → (frLen parts : Int) + (d.length : Int) ≤ lim) :
    Calls Tryz.prog 17 #[.pointer (some ⟨T, 0, none⟩)] w fun e w' => e = .returned (.int .i64 0) ∧ ∃ parts ps' clock', Cut qs parts ∧ SAt Z w' T F M nm ps' clock' lim v qs parts.length (frLen parts) ∧ OneK ps' (nm ++ dotK) (frsL 0 (parts.map bytesP)) true ∧ Kept (fun k => Z k) w w' := by
  have H := Lib.hid h
  have HL := Lib.hid hL
  have HR := Lib.hid (cready_ok w T F M nm v next size lim 0 h.sb h.f.fb)
  obtain ⟨Av, cv, rfl, hAv, hcv, -⟩ := h.at_
  have HC := Lib.hid (copied_any w T F M nm Av cv qs next size ps clock lim d made h.sb h.f one h.nT hl hcv hAv (fun W hk => h.psAt hk) hw hnm hft hne hd hfit)
  have hs2 : nm.size + 2 ≤ 9223372036854775807 := by omega
  have hs3 : ¬ 9223372036854775807 < nm.size + 2 := by omega
  clear h one hL hw hne hd hfit hAv
  go_enter Tryz.func17, Tryz.ntmps17
  go_upto_region 5 with (first
    | (go_at_call 37; refine HR.out.mono ?_; rintro e w ⟨rfl, rfl⟩)
    | (go_at_call 38; refine HC.out.mono ?_; rintro e w1 ⟨parts, ps1, clk1, hcut, rfl, hw1, two1⟩; have HCut := Lib.hid hcut; have HSt1 := Lib.hid (H.out.went hw1 HL.out); have HTw1 := Lib.hid two1; have HK1 : Hid (Kept (fun k => Z k) w w1) := Lib.hid (hw1.kept.mono fun k _ hm => H.out.lf k hm); clear hcut hw1 two1))
  obtain ⟨n, hn⟩ : ∃ n, n = parts.length := ⟨_, rfl⟩
  obtain ⟨s, hs⟩ : ∃ s, s = frLen parts := ⟨_, rfl⟩
  rw [← hn, ← hs]
  have Hn := Lib.hid hn
  have Hs := Lib.hid hs
  clear hn hs
  go_upto_region 11 with (go_at_call 39; refine (met_any w1 T F nm _ next size false 0 HSt1.out.sb).mono ?_; rintro e w2 ⟨rfl, hsb, hk⟩; have HSt2 := Lib.hid (HSt1.out.turn (by simpa using hsb) hk); have HK2 : Hid (Kept (fun k => Z k) w w2) := Lib.hid (HK1.out.trans' (hk.mono fun k _ e => by subst e; exact H.out.lT)); clear hsb hk)
  have d0 := HSt2.out.sb.c0
  have d1 := HSt2.out.sb.c1
  have HSt2' := Lib.hid (HSt2.out.stay (Kept.refl (fun _ => False) w2).drew)
  have HL2 : Hid (∀ k, w2.drew.heap.size ≤ k → Z k) := Lib.hid fun k hk => HL.out k (Nat.le_trans HK2.out.size hk)
  go_region_held3 (fun W => W.cell? ⟨T, 0, none⟩ = some (.pointer (some ⟨F, 0, none⟩)) ∧ W.cell? ⟨T, 1, none⟩ = some (.string nm)) (first | assumption | exact ⟨d0, d1⟩ | exact ⟨HSt3.out.sb.c0, HSt3.out.sb.c1⟩ | exact ⟨HSt4.out.sb.c0, HSt4.out.sb.c1⟩ | simp [*]) (first
    | (go_at_call 39; refine (met_any w3 T F nm _ next size false 0 HSt3.out.sb).mono ?_; rintro e w4 ⟨rfl, hsb, hk⟩; have HSt4 := Lib.hid (HSt3.out.turn (by simpa using hsb) hk); have HKT4 := Lib.hid hk; clear hsb hk)
    | (go_at_call 40; refine (trename w2.drew F M ps1 clk1 lim (nm ++ dotK) (nm ++ dotT) d (frsL 0 (parts.map bytesP)) made HSt2'.out.f HTw1.out (by rw [size_dotK]; omega) hfk).mono ?_; rintro e w3 ⟨rfl, ps3, clk3, hw3, one3⟩; have HW3 := Lib.hid hw3; have HOne3 := Lib.hid one3; have HSt3 := Lib.hid (HSt2'.out.went hw3 HL2.out); clear hw3 one3))
  have HK4 : Hid (Kept (fun k => Z k) w w4) := Lib.hid (by
    have k1 : Kept (fun k => Z k) w w2.drew := HK2.out.drew
    have k2 : Kept (fun k => Z k) w2.drew w3 := HW3.out.kept.mono fun k _ hm => HSt2'.out.lf k hm
    have k3 : Kept (fun k => Z k) w3 w4 := HKT4.out.mono fun k _ e => by subst e; exact H.out.lT
    exact (k1.trans' k2).trans' k3)
  have t3 := HSt4.out.sb.c3
  have t3f := HSt4.out.sb.fz 3
  have t4 := HSt4.out.sb.c4
  have t4f := HSt4.out.sb.fz 4
  clear d0 d1
  go_wp2
  go_ret
  have hsb9 : SB ((w4.setCell ⟨T, 3, none⟩ (.int .u64 (n : Nat))).setCell ⟨T, 4, none⟩ (.int .i64 (s : Nat))) T F nm (.slice Av qs.length cv) n s false := (HSt4.out.sb.s3 n).s4 s
  have hk9 : Kept (fun k => k = T) w4 ((w4.setCell ⟨T, 3, none⟩ (.int .u64 (n : Nat))).setCell ⟨T, 4, none⟩ (.int .i64 (s : Nat))) := ((Kept.refl (fun k => k = T) w4).setCell (fun _ => rfl) _).setCell (fun _ => rfl) _
  refine ⟨rfl, parts, ps3, clk3, HCut.out, ?_, HOne3.out, HK4.out.trans' (hk9.mono fun k _ e => by subst e; exact H.out.lT)⟩
  rw [← Hn.out, ← Hs.out]
  exact HSt4.out.turn hsb9 hk9
end Go.Proofs.YtcifhfdjigfeiaaGreatDoor
end

/-! courantlaw23.CompactShort, plain: what the rounds hold. -/
section
set_option linter.unusedVariables false
set_option linter.unusedSimpArgs false
namespace Go.Proofs.YtcifhfdjigfeiaaGreatDoor
open Go.RowKit

def wtC (c : Core) : Nat := c.1.size + c.2.1.length + 10
theorem put1_len (L : List Core) (c : Core) : (put1 L c).length ≤ L.length + 1 := by
  unfold put1
  simp only [List.length_append, List.length_take, List.length_drop]
  have h1 : (if c.2.2 then [] else [(c.1, c.2.1, false)] : List Core).length ≤ 1 := by split <;> simp
  have h2 : coreAt L c.1 ≤ (if coreIs L c.1 then coreAt L c.1 + 1 else coreAt L c.1) := by split <;> omega
  omega
theorem putC_len (L M : List Core) : (putC L M).length ≤ L.length + M.length := by
  unfold putC
  induction M generalizing L with
  | nil => simp
  | cons m M ih =>
    rw [List.foldl_cons]
    have h1 := ih (put1 L m)
    have h2 := put1_len L m
    rw [List.length_cons]; omega
theorem put1_wt {n : Nat} {L : List Core} {c : Core} (hL : ∀ x ∈ L, wtC x ≤ n) (hc : wtC c ≤ n) : ∀ x ∈ put1 L c, wtC x ≤ n := by
  intro x hx
  unfold put1 at hx
  rcases List.mem_append.1 hx with hx | hx
  · rcases List.mem_append.1 hx with hx | hx
    · exact hL x (List.mem_of_mem_take hx)
    · split at hx
      · cases hx
      · rw [List.mem_singleton.1 hx]; exact hc
  · exact hL x (List.mem_of_mem_drop hx)
theorem putC_wt {n : Nat} {L M : List Core} (hL : ∀ x ∈ L, wtC x ≤ n) (hM : ∀ x ∈ M, wtC x ≤ n) : ∀ x ∈ putC L M, wtC x ≤ n := by
  unfold putC
  induction M generalizing L with
  | nil => exact hL
  | cons m M ih =>
    rw [List.foldl_cons]
    exact ih (put1_wt hL (hM m List.mem_cons_self)) fun x hx => hM x (List.mem_cons_of_mem _ hx)
theorem wt_core {n : Nat} {ps : List PV} : (∀ p ∈ ps, wt p ≤ n) ↔ ∀ x ∈ ps.map PV.core, wtC x ≤ n := by
  constructor
  · intro h x hx
    obtain ⟨p, hp, rfl⟩ := List.mem_map.1 hx
    exact h p hp
  · intro h p hp
    exact h _ (List.mem_map_of_mem hp)
theorem pair_le {p : PV} (h : wt p ≤ 3000) : (pairB p).length ≤ wt p := by
  unfold wt at h ⊢
  have h1 := (zig2 (n := (kb p.key).length) (by rw [kb_size]; omega)).2
  have h2 := (zig2 (n := p.b.length) (by omega)).2
  have h3 := kb_size p.key
  unfold pairB
  split
  · simp only [List.length_append, textB_len, List.length_cons, List.length_nil]; omega
  · simp only [List.length_append, textB_len, List.length_cons, List.length_nil]; omega
theorem sum_wt (ps : List PV) (h : (ps.map wt).sum ≤ 3000) : (∀ p ∈ ps, wt p ≤ 3000) ∧ sumP ps ≤ (ps.map wt).sum := by
  induction ps with
  | nil => exact ⟨fun p hp => by simp at hp, by simp [sumP]⟩
  | cons p ps ih =>
    simp only [List.map_cons, List.sum_cons] at h ⊢
    obtain ⟨h1, h2⟩ := ih (by omega)
    have h3 := pair_le (p := p) (by omega)
    have e1 : sumP (p :: ps) = (pairB p).length + sumP ps := by simp [sumP]
    refine ⟨fun q hq => ?_, by rw [e1]; omega⟩
    rcases List.mem_cons.1 hq with rfl | hq
    · omega
    · exact h1 q hq
theorem few_small {ps : List PV} (h : fewP ps = true) : ps.length < 50 ∧ (∀ p ∈ ps, wt p ≤ 3000) ∧ (bytesP ps).length ≤ 3100 := by
  simp only [fewP, Bool.and_eq_true, decide_eq_true_eq] at h
  obtain ⟨h1, h2⟩ := h
  unfold fewN at h2
  rw [List.take_of_length_le (by omega)] at h2
  obtain ⟨h3, h4⟩ := sum_wt ps (by omega)
  have h5 := (zig2 (n := ps.length) (by omega)).2
  refine ⟨h1, h3, ?_⟩
  rw [bytesP_len]; omega
theorem cut_fit {qs : List PV} {parts : List (List PV)} (h : Cut qs parts) (hl : qs.length ≤ 150) (hw : ∀ q ∈ qs, wt q ≤ 3000) : frLen parts ≤ 460000 := by
  have h1 := fr_le parts fun l hl' => by have := len_flat hl'; rw [h.flat] at this; omega
  have h2 := cut_len h
  have h3 := sum_small hw
  rw [h.flat] at h1
  omega
/-- What a call on the store may write. -/
def Zs (W : World) (T F M : Nat) (ps : List PF) (k : Nat) : Prop := k = T ∨ k ∈ foot F M ps ∨ W.heap.size ≤ k
theorem SAt.reZ {Z Z' : Nat → Prop} {w : World} {T F M : Nat} {nm : ByteArray} {ps : List PF} {clock : Nat} {lim : Int} {v : Value} {qs : List PV} {next size : Nat} (h : SAt Z w T F M nm ps clock lim v qs next size) (hT : Z' T) (hf : ∀ k ∈ foot F M ps, Z' k) : SAt Z' w T F M nm ps clock lim v qs next size :=
  ⟨h.f, h.sb, h.row, h.own, h.nT, h.nv, h.nq, hT, hf⟩
theorem SAt.zs {Z : Nat → Prop} {w : World} {T F M : Nat} {nm : ByteArray} {ps : List PF} {clock : Nat} {lim : Int} {v : Value} {qs : List PV} {next size : Nat} (h : SAt Z w T F M nm ps clock lim v qs next size) : SAt (Zs w T F M ps) w T F M nm ps clock lim v qs next size :=
  h.reZ (.inl rfl) fun k hk => .inr (.inl hk)
theorem PsL.next {Z Z' : Nat → Prop} {w w' : World} {A : Option Addr} {ms : List PV} (h : PsL Z w A ms) (hk : Kept (fun k => Z k) w w') (hZ : ∀ k, Z' k → Z k) : PsL Z' w' A ms := fun W hW => h W (hk.trans' (hW.mono fun k _ e => hZ k e))
theorem PsL.here {Z : Nat → Prop} {w : World} {A : Option Addr} {ms : List PV} (h : PsL Z w A ms) : PsAt w A ms := h w (Kept.refl _ _)
theorem OwnP.psL {w W : World} {Z : Nat → Prop} {v : Value} {qs : List PV} (h : OwnP w W v qs) (hZ : ∀ k, Z k → k < w.heap.size ∨ W.heap.size ≤ k) : ∃ A c, v = .slice A qs.length c ∧ PsL Z W A qs := by
  obtain ⟨A, c, hv, -, -, -⟩ := h.at_
  refine ⟨A, c, hv, fun W' hW => ?_⟩
  have hr := own_kept h.row hW fun k e e2 => by have h1 := own_ge h.row k e; have h2 := own_lt' h.row k e; have := hZ k e2; omega
  obtain ⟨A', c', h1, -, -, -, h4, -⟩ := row_form hr fun q hq => PV.ok_own (own_kept (h.own q hq) hW fun k e e2 => by have h1 := own_ge (h.own q hq) k e; have h2 := own_lt' (h.own q hq) k e; have := hZ k e2; omega)
  rw [hv] at h1
  simp only [Value.slice.injEq] at h1
  obtain ⟨rfl, -, -⟩ := h1
  exact h4
structure ShI (w : World) (T F M k : Nat) (Al : Option Addr) (ms qs : List PV) (ps : List PF) (clock : Nat) (v : Value) (next : Nat) (d : List UInt8) (made : Bool) (W : World) : Prop where
  st : SAt (Zs W T F M ps) W T F M nA ps clock 1048576 v qs next d.length
  one : OneK ps (nA ++ dotK) d made
  ref : PsL (Zs W T F M ps) W Al ms
  core : qs.map PV.core = ms.map PV.core
  small : ∀ q ∈ ms, wt q ≤ 3000
  len : ms.length ≤ 150
  dl : d.length ≤ k * 3200
  nx : next ≤ k
  kept : Kept (fun _ => False) w W
  new : ∀ j, Zs W T F M ps j → w.heap.size ≤ j
theorem Zs.grow {W W' : World} {T F M : Nat} {ps : List PF} (hs : W.heap.size ≤ W'.heap.size) {k : Nat} (h : Zs W' T F M ps k) : Zs W T F M ps k := h.imp id (·.imp id fun h => Nat.le_trans hs h)
section
variable {w W W' w' : World} {T F M k k' : Nat} {Al : Option Addr} {ms qs : List PV} {ps ps' : List PF} {clock clock' : Nat} {v v' : Value} {next : Nat} {d : List UInt8} {made : Bool}
theorem ShI.stay (h : ShI w T F M k Al ms qs ps clock v next d made W) (hk : Kept (fun _ => False) W W') (hkk : k ≤ k') : ShI w T F M k' Al ms qs ps clock v next d made W' :=
  ⟨(h.st.stay hk).zs, h.one, h.ref.next (hk.mono fun _ _ e => e.elim) fun j hj => hj.grow hk.size, h.core, h.small, h.len, Nat.le_trans h.dl (Nat.mul_le_mul_right _ hkk), Nat.le_trans h.nx hkk, h.kept.trans' hk, fun j hj => h.new j (hj.grow hk.size)⟩
/-- Behind a Put. -/
theorem ShI.put {qs' ls ms' : List PV} {w'' : World} {v'' : Value} (h : ShI w T F M k Al ms qs ps clock v next d made W) (hl : ms.length ≤ 100) (hls : ls.length < 50) (hlw : ∀ p ∈ ls, wt p ≤ 3000) (hlb : (bytesP ls).length ≤ 3100)
    (hst : SAt (Zs W T F M ps) w' T F M nA ps' clock' 1048576 v' qs' (next + 1) (d.length + ((bytesP ls).length + 16))) (hone : OneK ps' (nA ++ dotK) (d ++ frameB next (bytesP ls)) true) (hc : qs'.map PV.core = putC (qs.map PV.core) (ls.map PV.core)) (hk : Kept (fun k => Zs W T F M ps k) W w')
    (ho : OwnP w' w'' v'' ms') (hc2 : ms'.map PV.core = putC (ms.map PV.core) (ls.map PV.core)) : ∃ A c, v'' = .slice A ms'.length c ∧ ShI w T F M (k + 1) A ms' qs' ps' clock' v' (next + 1) (d ++ frameB next (bytesP ls)) true w'' := by
  have hst2 := (hst.stay ho.kept).zs
  have hZ : ∀ j, Zs w'' T F M ps' j → j < w'.heap.size ∨ w''.heap.size ≤ j := fun j hj => by
    rcases hj with rfl | hj | hj
    · exact .inl hst.tlt
    · exact .inl (hst.f.lt j hj)
    · exact .inr hj
  obtain ⟨A, c, hv, hp⟩ := ho.psL hZ
  refine ⟨A, c, hv, ?_, hone, hp, by rw [hc, hc2, h.core], ?_, ?_, ?_, by have := h.nx; omega, ?_, fun j hj => ?_⟩
  · have e : d.length + ((bytesP ls).length + 16) = (d ++ frameB next (bytesP ls)).length := by rw [List.length_append, frameB_len]
    rw [← e]; exact hst2
  · rw [wt_core, hc2]
    exact putC_wt (wt_core.1 h.small) (wt_core.1 hlw)
  · have h1 := congrArg List.length hc2
    have h2 := putC_len (ms.map PV.core) (ls.map PV.core)
    simp only [List.length_map] at h1 h2
    omega
  · have h1 := h.dl
    rw [List.length_append, frameB_len]; omega
  · exact (h.kept.trans hk fun i hi e => by have := h.new i e; omega).trans' ho.kept
  · rcases hj with rfl | hj | hj
    · exact h.new _ (.inl rfl)
    · exact h.new j (hst.lf j hj)
    · have h1 := h.kept.size; have h2 := hk.size; have h3 := ho.kept.size; omega
end
/-- Slices of pairs that came in. -/
structure LV where
  A : Option Addr
  c : Nat
  ps : List PV
def PssAt (w : World) (A : Option Addr) (ls : List LV) : Prop := ∀ (j : Nat) l, ls[j]? = some l → ∃ ad, A = some ad ∧ w.cell? (ad.add j) = some (.slice l.A l.ps.length l.c) ∧ PsAt w l.A l.ps ∧ (∀ p ∈ l.ps, p.Sz) ∧ l.ps.length ≤ 140737488355328
end Go.Proofs.YtcifhfdjigfeiaaGreatDoor
end
