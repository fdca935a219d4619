import Derived.Test.YtcifhfdjigfeiaaGreatDoorAc
/-! courantlaw23.CompactPlays' open: its variables, one set behind the other. -/
section
set_option linter.unusedVariables false
set_option linter.unusedSimpArgs false
namespace Go.Proofs.YtcifhfdjigfeiaaGreatDoor
open Go.RowKit

theorem boxed_noRow {W : World} {b : Nat} {ty : TypeId} {x : Value} {base e s n : Nat} {u : Value} {xs : List Value} (h : Boxed W b ty x) (ho : W.ownsRow base e s u n xs) (he : e ≠ ty) : u.ownBlock ≠ some b := by
  intro e2
  rcases ho.2 with ⟨hv, _⟩ | ⟨g, _, _, hv, _, hh, _⟩
  · rw [hv] at e2; cases e2
  · have hg : g = b := by rw [hv] at e2; simpa [Value.ownBlock] using e2
    subst hg
    rw [show W.heap[g]? = _ from h] at hh
    simp at hh
    exact he hh.2.symm
theorem CS.box {W : World} {T F M b : Nat} {nm : ByteArray} {ps : List PF} {clock : Nat} {lim arm : Int} {dn dead : Bool} {v : Value} {qs : List PV} {next size : Nat} {ty : TypeId} {x : Value} (h : CS W T F M nm ps clock lim arm dn v qs next size dead) (hb : Boxed W b ty x) (h1 : 53 ≠ ty) (h2 : 5 ≠ ty) (h3 : b ≠ T) (h4 : b ∉ foot F M ps) (u : Value) : CS (W.setCell ⟨b, 0, none⟩ u) T F M nm ps clock lim arm dn v qs next size dead := by
  have hk := kF W b 0 u
  exact ⟨h.f.kept hk (fun k hm e => h4 (e ▸ hm)), h.sb.kept hk (fun e => h3 e.symm), own_kept h.row hk fun k e e2 => boxed_noRow hb h.row h1 (e2 ▸ e), fun q hq => own_kept (h.own q hq) hk fun k e e2 => boxed_noRow hb (h.own q hq) h2 (e2 ▸ e), h.nT, h.nv, h.nq⟩
/-- What is held while open sets its variables. -/
structure PQ (w0 W : World) (fb sb db ub mb lb F M T : Nat) (ps : List PF) (clock : Nat) (lim arm : Int) (v : Value) (qs : List PV) (parts : List (List PV)) (sv : Nat) (dw un : Bool) (ls hs : List PV) : Prop where
  cs : CS W T F M nAb ps clock lim arm false v qs parts.length (frs parts).length false
  bf : Boxed W fb 23 (.pointer (some ⟨F, 0, none⟩))
  bs : Boxed W sb 25 (.pointer (some ⟨sv, 0, none⟩))
  bd : Boxed W db 4 (.bool dw)
  bu : Boxed W ub 4 (.bool un)
  bl : ∃ A c, Boxed W lb 30 (.slice A ls.length c) ∧ PsZ W T F M ps [fb, sb, db, ub, mb, lb] A ls
  bm : ∃ A c, Boxed W mb 30 (.slice A hs.length c) ∧ PsZ W T F M ps [fb, sb, db, ub, mb, lb] A hs
  bx : BxZ W T F M ps [fb, sb, db, ub, mb, lb]
  dj : [fb, sb, db, ub, mb, lb].Nodup
  nT : w0.heap.size ≤ T
  nf : ∀ k ∈ foot F M ps, w0.heap.size ≤ k
  nb : ∀ b ∈ [fb, sb, db, ub, mb, lb], w0.heap.size ≤ b
  kept : Kept (fun _ => False) w0 W
section
variable {w0 w W W' : World} {fb sb db ub mb lb F M T T0 : Nat} {ps ps0 : List PF} {clock clock0 : Nat} {lim arm arm0 : Int} {dn0 : Bool} {v : Value} {qs : List PV} {parts parts0 : List (List PV)} {sv : Nat} {dw un st0 : Bool} {ls hs ms : List PV} {t0 : List UInt8} {i : Nat}
/-- Behind the opening. -/
theorem PL.pq (h : PL w0 w fb sb db ub mb lb F M T0 ps0 clock0 lim arm0 dn0 un ms hs parts0 t0 st0 i) (hdb : Boxed w db 4 (.bool dw)) (hc : CS W T F M nAb ps clock lim arm false v qs parts.length (frs parts).length false) (m : MvF w F M ps0 ps W) (hT : w.heap.size ≤ T) :
    PQ w0 W fb sb db ub mb lb F M T ps clock lim arm v qs parts T0 dw un ms hs := by
  have mz : MvZ w T0 F M ps0 T ps [fb, sb, db, ub, mb, lb] W := MvZ.opened m.kept m.feet hT
  have mv : Moved w T0 F M ps0 ps W := m.moved
  refine ⟨hc, boxed_mv h.bf h.bx (by simp) mv, boxed_mv h.bs h.bx (by simp) mv, boxed_mv hdb h.bx (by simp) mv, boxed_mv h.bu h.bx (by simp) mv, ?_, ?_, h.bx.mv mz, h.dj, Nat.le_trans h.kept.size hT, fun k hk => (m.feet k hk).elim (h.nf k) fun e => Nat.le_trans h.kept.size e, h.nb, h.kept.trans m.kept fun k hk e => by have := h.nf k e; omega⟩
  · obtain ⟨A, c, h1, h2⟩ := h.bl
    exact ⟨A, c, boxed_mv h1 h.bx (by simp) mv, h2.mv mz⟩
  · obtain ⟨A, c, h1, h2⟩ := h.bm
    exact ⟨A, c, boxed_mv h1 h.bx (by simp) mv, h2.mv mz⟩
theorem PQ.stay (h : PQ w0 W fb sb db ub mb lb F M T ps clock lim arm v qs parts sv dw un ls hs) (hk : Kept (fun _ => False) W W') : PQ w0 W' fb sb db ub mb lb F M T ps clock lim arm v qs parts sv dw un ls hs := by
  have mz : MvZ W T F M ps T ps [fb, sb, db, ub, mb, lb] W' := MvZ.stay hk
  refine ⟨h.cs.stay hk, hk.heap h.bf (by simp), hk.heap h.bs (by simp), hk.heap h.bd (by simp), hk.heap h.bu (by simp), ?_, ?_, h.bx.mv mz, h.dj, h.nT, h.nf, h.nb, h.kept.trans' hk⟩
  · obtain ⟨A, c, h1, h2⟩ := h.bl
    exact ⟨A, c, hk.heap h1 (by simp), h2.mv mz⟩
  · obtain ⟨A, c, h1, h2⟩ := h.bm
    exact ⟨A, c, hk.heap h1 (by simp), h2.mv mz⟩
theorem PQ.off (h : PQ w0 W fb sb db ub mb lb F M T ps clock lim arm v qs parts sv dw un ls hs) {b : Nat} {ty : TypeId} {x : Value} (hb : b ∈ [fb, sb, db, ub, mb, lb]) (hx : Boxed W b ty x) (h1 : 53 ≠ ty) (h2 : 5 ≠ ty) (u : Value) :
    CS (W.setCell ⟨b, 0, none⟩ u) T F M nAb ps clock lim arm false v qs parts.length (frs parts).length false ∧ MvZ W T F M ps T ps [fb, sb, db, ub, mb, lb] (W.setCell ⟨b, 0, none⟩ u) ∧ Kept (fun _ => False) w0 (W.setCell ⟨b, 0, none⟩ u) := by
  have hbb := h.bx b hb
  exact ⟨h.cs.box hx h1 h2 hbb.1 hbb.2.1 u, MvZ.box hb (kF W b 0 u), h.kept.trans (kF W b 0 u) fun k hk e => by have := h.nb b hb; omega⟩
theorem PQ.setS (h : PQ w0 W fb sb db ub mb lb F M T ps clock lim arm v qs parts sv dw un ls hs) (sv' : Nat) : PQ w0 (W.setCell ⟨sb, 0, none⟩ (.pointer (some ⟨sv', 0, none⟩))) fb sb db ub mb lb F M T ps clock lim arm v qs parts sv' dw un ls hs := by
  obtain ⟨g1, g2, g3⟩ := h.off (by simp) h.bs (by decide) (by decide) (.pointer (some ⟨sv', 0, none⟩))
  have hd := h.dj
  simp only [List.nodup_cons, List.mem_cons, List.not_mem_nil, or_false, not_or] at hd
  have hk := kF W sb 0 (.pointer (some ⟨sv', 0, none⟩))
  refine ⟨g1, hk.heap h.bf (by omega), h.bs.set _, hk.heap h.bd (by omega), hk.heap h.bu (by omega), ?_, ?_, h.bx.mv g2, h.dj, h.nT, h.nf, h.nb, g3⟩
  · obtain ⟨A, c, h1, h2⟩ := h.bl
    exact ⟨A, c, hk.heap h1 (by omega), h2.mv g2⟩
  · obtain ⟨A, c, h1, h2⟩ := h.bm
    exact ⟨A, c, hk.heap h1 (by omega), h2.mv g2⟩
theorem PQ.setD (h : PQ w0 W fb sb db ub mb lb F M T ps clock lim arm v qs parts sv dw un ls hs) (dw' : Bool) : PQ w0 (W.setCell ⟨db, 0, none⟩ (.bool dw')) fb sb db ub mb lb F M T ps clock lim arm v qs parts sv dw' un ls hs := by
  obtain ⟨g1, g2, g3⟩ := h.off (by simp) h.bd (by decide) (by decide) (.bool dw')
  have hd := h.dj
  simp only [List.nodup_cons, List.mem_cons, List.not_mem_nil, or_false, not_or] at hd
  have hk := kF W db 0 (.bool dw')
  refine ⟨g1, hk.heap h.bf (by omega), hk.heap h.bs (by omega), h.bd.set _, hk.heap h.bu (by omega), ?_, ?_, h.bx.mv g2, h.dj, h.nT, h.nf, h.nb, g3⟩
  · obtain ⟨A, c, h1, h2⟩ := h.bl
    exact ⟨A, c, hk.heap h1 (by omega), h2.mv g2⟩
  · obtain ⟨A, c, h1, h2⟩ := h.bm
    exact ⟨A, c, hk.heap h1 (by omega), h2.mv g2⟩
theorem PQ.setU (h : PQ w0 W fb sb db ub mb lb F M T ps clock lim arm v qs parts sv dw un ls hs) (un' : Bool) : PQ w0 (W.setCell ⟨ub, 0, none⟩ (.bool un')) fb sb db ub mb lb F M T ps clock lim arm v qs parts sv dw un' ls hs := by
  obtain ⟨g1, g2, g3⟩ := h.off (by simp) h.bu (by decide) (by decide) (.bool un')
  have hd := h.dj
  simp only [List.nodup_cons, List.mem_cons, List.not_mem_nil, or_false, not_or] at hd
  have hk := kF W ub 0 (.bool un')
  refine ⟨g1, hk.heap h.bf (by omega), hk.heap h.bs (by omega), hk.heap h.bd (by omega), h.bu.set _, ?_, ?_, h.bx.mv g2, h.dj, h.nT, h.nf, h.nb, g3⟩
  · obtain ⟨A, c, h1, h2⟩ := h.bl
    exact ⟨A, c, hk.heap h1 (by omega), h2.mv g2⟩
  · obtain ⟨A, c, h1, h2⟩ := h.bm
    exact ⟨A, c, hk.heap h1 (by omega), h2.mv g2⟩
theorem PQ.setL (h : PQ w0 W fb sb db ub mb lb F M T ps clock lim arm v qs parts sv dw un ls hs) {A : Option Addr} {c : Nat} (ls' : List PV) (hp : PsZ W T F M ps [fb, sb, db, ub, mb, lb] A ls') : PQ w0 (W.setCell ⟨lb, 0, none⟩ (.slice A ls'.length c)) fb sb db ub mb lb F M T ps clock lim arm v qs parts sv dw un ls' hs := by
  obtain ⟨A0, c0, h1, h2⟩ := h.bl
  obtain ⟨g1, g2, g3⟩ := h.off (by simp) h1 (by decide) (by decide) (.slice A ls'.length c)
  have hd := h.dj
  simp only [List.nodup_cons, List.mem_cons, List.not_mem_nil, or_false, not_or] at hd
  have hk := kF W lb 0 (.slice A ls'.length c)
  refine ⟨g1, hk.heap h.bf (by omega), hk.heap h.bs (by omega), hk.heap h.bd (by omega), hk.heap h.bu (by omega), ?_, ?_, h.bx.mv g2, h.dj, h.nT, h.nf, h.nb, g3⟩
  · exact ⟨A, c, h1.set _, hp.mv g2⟩
  · obtain ⟨A, c, h1, h2⟩ := h.bm
    exact ⟨A, c, hk.heap h1 (by omega), h2.mv g2⟩
theorem PQ.setM (h : PQ w0 W fb sb db ub mb lb F M T ps clock lim arm v qs parts sv dw un ls hs) {A : Option Addr} {c : Nat} (hs' : List PV) (hp : PsZ W T F M ps [fb, sb, db, ub, mb, lb] A hs') : PQ w0 (W.setCell ⟨mb, 0, none⟩ (.slice A hs'.length c)) fb sb db ub mb lb F M T ps clock lim arm v qs parts sv dw un ls hs' := by
  obtain ⟨A0, c0, h1, h2⟩ := h.bm
  obtain ⟨g1, g2, g3⟩ := h.off (by simp) h1 (by decide) (by decide) (.slice A hs'.length c)
  have hd := h.dj
  simp only [List.nodup_cons, List.mem_cons, List.not_mem_nil, or_false, not_or] at hd
  have hk := kF W mb 0 (.slice A hs'.length c)
  refine ⟨g1, hk.heap h.bf (by omega), hk.heap h.bs (by omega), hk.heap h.bd (by omega), hk.heap h.bu (by omega), ?_, ?_, h.bx.mv g2, h.dj, h.nT, h.nf, h.nb, g3⟩
  · obtain ⟨A, c, h1, h2⟩ := h.bl
    exact ⟨A, c, hk.heap h1 (by omega), h2.mv g2⟩
  · exact ⟨A, c, h1.set _, hp.mv g2⟩
/-- All is set. -/
theorem PQ.pl (h : PQ w0 W fb sb db ub mb lb F M T ps clock lim arm v qs parts T dw un ls hs) (hd : DK (lk ps) parts [] true) (hb : Bd i parts ls) (hl : hs.length ≤ 5000) : PL w0 W fb sb db ub mb lb F M T ps clock lim arm false un ls hs parts [] true i :=
  ⟨h.cs.f, hd, .inl rfl, hb, fun _ => ⟨rfl, rfl⟩, h.bf, h.bs, h.bu, h.bl, h.bm, h.bx, h.dj, h.nT, h.nf, h.nb, h.kept, hl⟩
end
end Go.Proofs.YtcifhfdjigfeiaaGreatDoor
end

/-! courantlaw23.CompactPlays: All of a store, what the files' names say. -/
section
set_option linter.unusedVariables false
set_option linter.unusedSimpArgs false
namespace Go.Proofs.YtcifhfdjigfeiaaGreatDoor
open Go.RowKit

theorem sortN_len (ps : List PF) : (sortN ps).length = ps.length := by rw [(sortN_perm ps).length_eq]; simp [namesL]
theorem sortN_not {ps : List PF} {s : ByteArray} (h : lk ps s = none) : ∀ x ∈ sortN ps, (⟨x.toArray⟩ : ByteArray) ≠ s := fun x hx => by
  have h1 := (sortN_perm ps).mem_iff.1 hx
  obtain ⟨p, hp, rfl⟩ := List.mem_map.1 h1
  have h2 := lk_none.1 h p hp
  exact fun e => h2 (by rw [← e]; try rfl)
theorem Bd.cores {i : Nat} {parts : List (List PV)} {ms hs : List PV} (h : Bd i parts ms) (hc : hs.map PV.core = ms.map PV.core) : Bd i parts hs := by
  have hl : hs.length = ms.length := by simpa using congrArg List.length hc
  refine ⟨h.pl, h.fl, h.by_, h.fit, by rw [hl]; exact h.ml, fun p hp => ?_, by rw [sumP_C, hc, ← sumP_C]; exact h.msum, by rw [hc]; exact h.fold⟩
  have h1 : p.core ∈ ms.map PV.core := hc ▸ List.mem_map_of_mem hp
  obtain ⟨q, hq, e⟩ := List.mem_map.1 h1
  have h2 := h.mw q hq
  simp only [PV.core, Prod.mk.injEq] at e
  unfold wt at h2 ⊢
  rw [← e.1, ← e.2.1]; exact h2
theorem CS.all {W : World} {T F M : Nat} {nm : ByteArray} {ps : List PF} {clock : Nat} {lim arm : Int} {dn dead : Bool} {v : Value} {qs ms : List PV} {next size i : Nat} {parts : List (List PV)} (h : CS W T F M nm ps clock lim arm dn v qs next size dead) (hq : qs.map PV.core = ms.map PV.core) (hb : Bd i parts ms) (hi : i ≤ 60) :
    Calls Tryz.prog 12 #[.pointer (some ⟨T, 0, none⟩)] W fun e w' => ∃ A' c' q', e = .returned (.slice A' q'.length c') ∧ PsAt w' A' q' ∧ q'.map PV.core = ms.map PV.core ∧ q'.length ≤ 3000 ∧ Kept (fun _ => False) W w' := by
  have hl : qs.length = ms.length := by simpa using congrArg List.length hq
  have h3 := hb.ml
  refine (call_D W T F M nm ps clock lim arm dn dead v qs next size h (by omega) fun q hqq => ?_).mono ?_
  · have h1 : q.core ∈ ms.map PV.core := hq ▸ List.mem_map_of_mem hqq
    obtain ⟨p, hp, e⟩ := List.mem_map.1 h1
    have h2 := hb.mw p hp
    simp only [PV.core, Prod.mk.injEq] at e
    unfold wt at h2
    rw [← e.2.1]; omega
  · rintro e w' ⟨A', c', q', rfl, -, hp, hc, hk⟩
    have hc2 : q'.map PV.core = qs.map PV.core := hc
    refine ⟨A', c', q', rfl, hp, hc2.trans hq, ?_, hk⟩
    have := congrArg List.length hc2
    simp only [List.length_map] at this
    omega
/-- All, beside a list. -/
theorem CS.allEq {W : World} {T F M : Nat} {nm : ByteArray} {ps : List PF} {clock : Nat} {lim arm : Int} {dn dead : Bool} {v : Value} {qs ms ls : List PV} {next size i c : Nat} {parts : List (List PV)} {A : Option Addr} (h : CS W T F M nm ps clock lim arm dn v qs next size dead) (hq : qs.map PV.core = ms.map PV.core) (hb : Bd i parts ms) (hi : i ≤ 60) (hp : PsAt W A ls) :
    Calls Tryz.prog 12 #[.pointer (some ⟨T, 0, none⟩)] W fun e w' => ∃ V, e = .returned V ∧ Kept (fun _ => False) W w' ∧ ∀ W2, Kept (fun _ => False) w' W2 → Calls Tryz.prog 11 #[V, .slice A ls.length c] W2 fun e w2 => e = .returned (.bool (decide (ms.map PV.core = ls.map PV.core))) ∧ Kept (fun _ => False) W w2 := by
  refine (h.all hq hb hi).mono ?_
  rintro e w' ⟨A', c', q', rfl, hp', hc, hl, hk⟩
  refine ⟨_, rfl, hk, fun W2 hW2 => ?_⟩
  have h1 := pairs_any W2 A' A q'.length ls.length c' c q' ls rfl rfl (by omega) (hp'.kept hW2) (hp.kept (hk.trans' hW2))
  rw [hc] at h1
  exact h1.mono fun e w2 ⟨he, hk2⟩ => ⟨he, (hk.trans' hW2).trans' hk2⟩
end Go.Proofs.YtcifhfdjigfeiaaGreatDoor
end

/-! courantlaw23.CompactPlays' open, walked. -/
section
set_option linter.unusedVariables false
set_option linter.unusedSimpArgs false
namespace Go.Proofs.YtcifhfdjigfeiaaGreatDoor
open Go.RowKit

set_option maxRecDepth 100000 in
set_option maxHeartbeats 8000000 in
theorem plays_open (w0 w : World) (fb sb db ub mb lb F M T : Nat) (ps : List PF) (clock : Nat) (lim arm : Int) (dn un dw : Bool) (ms hs : List PV) (parts : List (List PV)) (t : List UInt8) (st : Bool) (i : Nat) (an : Int) (A3 : Option Addr) (n3 c3 : Nat)
    (h : PL w0 w fb sb db ub mb lb F M T ps clock lim arm dn un ms hs parts t st i) (hdb : Boxed w db 4 (.bool dw)) (hi : i ≤ 60) (han : an ≤ 9223372036854775807) (hks : ∀ j, j < n3 → ∃ ad z, A3 = some ad ∧ w0.cell? (ad.add j) = some (.int .i64 z)) :
    Calls Tryz.prog 7 #[.int .i64 an, .slice A3 n3 c3, .pointer (some ⟨fb, 0, none⟩), .pointer (some ⟨sb, 0, none⟩), .pointer (some ⟨db, 0, none⟩), .pointer (some ⟨ub, 0, none⟩), .pointer (some ⟨mb, 0, none⟩), .pointer (some ⟨lb, 0, none⟩)] w fun e w' =>
      e = .returned (.bool true) ∧ ∃ T' ps' clock' arm' ms' parts', PL w0 w' fb sb db ub mb lb F M T' ps' clock' lim arm' false false ms' hs parts' [] true i ∧ Alive w' T' F M ps' clock' lim arm' parts' ms' ∧ Boxed w' db 4 (.bool false) := by
  have H := Lib.hid h
  have HDb := Lib.hid hdb
  have HSt : Hid (Calls Tryz.prog 8 #[.pointer (some ⟨F, 0, none⟩)] w fun e w' => e = .returned (.tuple #[]) ∧ FSt w w' F M ps lim un hs parts i 0 false) := Lib.hid (by
    cases dn
    · refine (start_up w F M ps clock lim arm h.f).mono ?_
      rintro e w' ⟨he, hw⟩
      have h1 := h.up rfl
      have h2 := h.dk
      rw [h1.1, h1.2] at h2
      have h3 := h.tl
      rw [h1.1] at h3
      exact ⟨he, ps, clock, [], hw.at_, MvF.went hw, h2, h3⟩
    · have hsm := dk_small h.f.names h.dk
      refine (start_down w F M ps clock lim arm h.f hsm.1 hsm.2).mono ?_
      rintro e w' ⟨he, qs, hw, ha⟩
      obtain ⟨k, hk⟩ := h.dk.fell ha.fell
      exact ⟨he, qs, clock, _, hw.at_, MvF.went hw, hk, h.tl.take k⟩)
  have HKs : Hid (∀ j, j < n3 → ∃ ad z, A3 = some ad ∧ w.cell? (ad.add j) = some (.int .i64 z) ∧ ad.block ∉ foot F M ps) := Lib.hid fun j hj => by
    obtain ⟨ad, z, e, hc⟩ := hks j hj
    refine ⟨ad, z, e, h.kept.cell hc (by simp), fun hm => ?_⟩
    have h2 := World.block_lt_of_cell? w0 _ hc
    rw [add_block] at h2
    have := h.nf _ hm
    omega
  have hf0 := h.bf.cell
  clear h hdb hks
  go_enter Tryz.func7, Tryz.ntmps7
  go_upto_region 2 with (go_at_call 8; refine HSt.out.mono ?_; rintro e w1 ⟨rfl, hs1⟩; have HS1 := Lib.hid hs1; have hf1 : w1.cell? ⟨fb, 0, none⟩ = some (.pointer (some ⟨F, 0, none⟩)) := (by obtain ⟨_, _, _, _, hm, _⟩ := hs1.ex; exact (boxed_mv H.out.bf H.out.bx (by simp) hm.moved).cell); clear hs1)
  clear hf0
  go_upto_region 3 with (go_at_call 9; refine (HS1.out.armed an han).mono ?_; rintro e w2 ⟨rfl, hs2⟩; have HS2 := Lib.hid hs2; have hf2 : w2.cell? ⟨fb, 0, none⟩ = some (.pointer (some ⟨F, 0, none⟩)) := (by obtain ⟨_, _, _, _, hm, _⟩ := hs2.ex; exact (boxed_mv H.out.bf H.out.bx (by simp) hm.moved).cell); clear hs2)
  clear hf1
  have hbf : ∀ (W : World) a d, FSt w W F M ps lim un hs parts i a d → W.cell? ⟨fb, 0, none⟩ = some (.pointer (some ⟨F, 0, none⟩)) := fun W a d hs => by
    obtain ⟨_, _, _, _, hm, _⟩ := hs.ex
    exact (boxed_mv H.out.bf H.out.bx (by simp) hm.moved).cell
  have Hbf := Lib.hid hbf
  clear hbf
  have HOp := Lib.hid (HS2.out.opened H.out.bd hi)
  go_upto_region 4 with (go_at_call 5; refine HOp.out.mono ?_; rintro e w3 hop; obtain ⟨x3, g3, rfl⟩ : ∃ (x3 : Value) (g3 : Int), e = .returned (.tuple #[x3, .int .i64 g3]) := (by rcases hop with ⟨h1, -⟩ | ⟨T2, h1, -⟩; exact ⟨_, _, h1⟩; exact ⟨_, _, h1⟩); have HOp3 := Lib.hid hop; clear hop)
  clear hf2
  go_wp2_with fail
  go_loopw [11, 12, 13] (fun x g k wr => Hid ((g = .int .i64 13 ∧ k = .int .i64 0 ∧ ∃ a, FSt w wr F M ps lim un hs parts i a true) ∨ (∃ T2, x = .pointer (some ⟨T2, 0, none⟩) ∧ g = .int .i64 0 ∧ (∃ kk : Int, k = .int .i64 kk) ∧ Opd w wr F M ps lim un ms hs i T2))) (fun _ g _ _ => (intOf g).toNat)
  case atStart =>
    rcases HOp3.out with ⟨h1, h2, a, h3⟩ | ⟨T2, h1, h3⟩
    · simp only [Ending.returned.injEq, Value.tuple.injEq, Array.mk.injEq, List.cons.injEq, and_true] at h1
      exact Lib.hid (.inl ⟨h1.2, rfl, a, h3⟩)
    · simp only [Ending.returned.injEq, Value.tuple.injEq, Array.mk.injEq, List.cons.injEq, and_true] at h1
      exact Lib.hid (.inr ⟨T2, h1.1, h1.2, ⟨0, rfl⟩, h3⟩)
  case round =>
    rcases hrel.out with ⟨rfl, rfl, a, hd⟩ | ⟨T2, rfl, rfl, hk, hop⟩
    · have HD := Lib.hid hd
      have hf1 := Hbf.out _ _ _ hd
      clear hd hrel
      go_upto_region 8 with (go_at_call 10; refine (HD.out.fallen HKs.out).mono ?_; rintro e w4 ⟨rfl, hs4⟩; have HS4 := Lib.hid hs4; have hf4 := Hbf.out _ _ _ hs4; clear hs4)
      go_upto_region 9 with (go_at_call 8; refine HS4.out.started.mono ?_; rintro e w5 ⟨rfl, hs5⟩; have HS5 := Lib.hid hs5; have hf5 := Hbf.out _ _ _ hs5; clear hs5)
      clear hf1 hf4
      have HOp5 := Lib.hid (HS5.out.opened H.out.bd hi)
      go_wp2_with (go_at_call 5; refine HOp5.out.mono ?_; rintro e w6 (⟨-, h0, -⟩ | ⟨T2, rfl, hop⟩); exact absurd rfl h0; have HOp6 := Lib.hid hop; clear hop)
      go_roundw
      case rel => exact Lib.hid (.inr ⟨T2, rfl, rfl, ⟨1, rfl⟩, HOp6.out⟩)
      case measure => simp [intOf]
    · have HO := Lib.hid hop
      have hf1 : wr.cell? ⟨fb, 0, none⟩ = some (.pointer (some ⟨F, 0, none⟩)) := by
        obtain ⟨_, _, _, _, _, _, -, -, hm, -⟩ := hop.ex
        exact (boxed_mv H.out.bf H.out.bx (by simp) hm.moved).cell
      clear hop hrel
      obtain ⟨kk, rfl⟩ := hk
      go_upto_region 11 with (go_at_call 9; refine HO.out.armed.mono ?_; rintro e w4 ⟨rfl, ho⟩; have HO4 := Lib.hid ho; clear ho)
      clear hf1
      obtain ⟨ps4, c4, a4, parts', v, qs, HPQ4, Hq, HD4, Hn4, Hk4, Hb4⟩ : ∃ ps4 c4 a4 parts' v qs, Hid (PQ w0 w4 fb sb db ub mb lb F M T2 ps4 c4 lim a4 v qs parts' T dw un ms hs) ∧ Hid (qs.map PV.core = foldP parts') ∧ Hid (DK (lk ps4) parts' [] true) ∧ Hid (lk ps4 nabT = none) ∧ Hid ((lk ps4 nabK = none ∧ parts' = []) ∨ lk ps4 nabK = some (frs parts', (frs parts').length)) ∧ Hid (Bd i parts' ms ∨ (un = true ∧ Bd i parts' hs)) := by
        obtain ⟨ps4, c4, a4, parts', v, qs, hC, hq, hm, g1, g2, g3, g4⟩ := HO4.out.ex
        exact ⟨ps4, c4, a4, parts', v, qs, Lib.hid (H.out.pq HDb.out hC hm HO4.out.t), Lib.hid hq, Lib.hid g1, Lib.hid g2, Lib.hid g3, Lib.hid g4⟩
      have HPQ5 := Lib.hid ((HPQ4.out.setS T2).setD false)
      have s1 := HPQ4.out.bs.cell
      have s2 := (HPQ4.out.setS T2).bd.cell
      have s1f := HPQ4.out.bs.frozen
      have s2f := (HPQ4.out.setS T2).bd.frozen
      go_upto_region 14 with fail
      obtain ⟨w5, hw5⟩ : ∃ w5, w5 = (w4.setCell ⟨sb, 0, none⟩ (.pointer (some ⟨T2, 0, none⟩))).setCell ⟨db, 0, none⟩ (.bool false) := ⟨_, rfl⟩
      rw [← hw5] at HPQ5 ⊢
      clear hw5 s1 s2 s1f s2f HPQ4
      have HPQ6 : Hid (∀ W, Kept (fun _ => False) w5 W → PQ w0 W fb sb db ub mb lb F M T2 ps4 c4 lim a4 v qs parts' T2 false un ms hs) := Lib.hid fun W hW => HPQ5.out.stay hW
      obtain ⟨Al, cl, hl5, hpl⟩ := HPQ5.out.bl
      obtain ⟨Am, cm, hm5, hpm⟩ := HPQ5.out.bm
      have HLZ := Lib.hid hpl
      have HMZ := Lib.hid hpm
      have HX : Hid (∀ W, Kept (fun _ => False) w5 W → W.cell? ⟨sb, 0, none⟩ = some (.pointer (some ⟨T2, 0, none⟩)) ∧ W.cell? ⟨ub, 0, none⟩ = some (.bool un) ∧ W.cell? ⟨mb, 0, none⟩ = some (.slice Am hs.length cm)) := Lib.hid fun W hW => ⟨(HPQ6.out W hW).bs.cell, (HPQ6.out W hW).bu.cell, Boxed.cell (hW.heap hm5 (by simp))⟩
      have x0 := HX.out w5 (Kept.refl _ _)
      have hfin : ∀ (W : World) (ks : List PV), PQ w0 W fb sb db ub mb lb F M T2 ps4 c4 lim a4 v qs parts' T2 false un ks hs → Bd i parts' ks → True := fun _ _ _ _ => trivial
      clear hl5 hpl hm5 hpm
      have hcase : (un = false ∧ Bd i parts' ms) ∨ (un = true ∧ foldP parts' = hs.map PV.core ∧ Bd i parts' hs) ∨ (un = true ∧ ¬ (foldP parts' = hs.map PV.core) ∧ Bd i parts' ms) := by
        cases un
        · exact .inl ⟨rfl, Hb4.out.resolve_right fun h => by cases h.1⟩
        · by_cases hc : foldP parts' = hs.map PV.core
          · refine .inr (.inl ⟨rfl, hc, ?_⟩)
            rcases Hb4.out with h | h
            · exact h.cores (hc.symm.trans h.fold)
            · exact h.2
          · exact .inr (.inr ⟨rfl, hc, Hb4.out.resolve_right fun h => hc h.2.fold⟩)
      rcases hcase with ⟨rfl, hbd⟩ | ⟨rfl, hceq, hbd⟩ | ⟨rfl, hcne, hbd⟩
      case' inl =>
        have HBd := Lib.hid hbd
        clear hbd
        have xu := x0.2.1
        go_quiet (fail)
        obtain ⟨w7, hw7⟩ : ∃ w7, w7 = w5.drewN nq := ⟨_, rfl⟩
        have HK7 : Hid (Kept (fun _ => False) w5 w7) := Lib.hid (by rw [hw7]; exact (Kept.refl _ _).drewN _)
        rw [← hw7]
        clear hw7 xu x0
        have HP8 := Lib.hid (HPQ6.out w7 HK7.out)
        have u1 := HP8.out.bu.cell
        have u2 := HP8.out.bu.frozen
        go_upto_region 17 with fail
        obtain ⟨w9, ks, hw9, HPQ9, HBd9⟩ : ∃ w9 ks, w9 = w7.setCell ⟨ub, 0, none⟩ (.bool false) ∧ Hid (PQ w0 w9 fb sb db ub mb lb F M T2 ps4 c4 lim a4 v qs parts' T2 false false ks hs) ∧ Hid (Bd i parts' ks) := ⟨_, ms, rfl, Lib.hid (HP8.out.setU false), HBd⟩
        rw [← hw9]
        clear hw9 u1 u2 HP8 HBd
      case' inr.inl =>
        have HBd := Lib.hid hbd
        have HCq := Lib.hid hceq
        clear hbd hceq
        have HAll := Lib.hid ((HPQ6.out _ (Kept.refl (fun _ => False) w5).drew).cs.allEq (c := cm) (Hq.out.trans HBd.out.fold) HBd.out hi (HMZ.out.here.kept (Kept.refl (fun _ => False) w5).drew))
        simp only [decide_true] at HAll
        go_region_held3 (fun W => W.cell? ⟨sb, 0, none⟩ = some (.pointer (some ⟨T2, 0, none⟩)) ∧ W.cell? ⟨ub, 0, none⟩ = some (.bool true) ∧ W.cell? ⟨mb, 0, none⟩ = some (.slice Am hs.length cm)) (first | assumption | exact x0 | exact HX.out _ hk7 | exact HX.out _ HK7.out | exact HX.out _ HK6.out | simp [*]) (first
          | (go_at_call 12; refine HAll.out.mono ?_; rintro e w6 ⟨V, rfl, hk6, hc6⟩; have HK6 := Lib.hid ((Kept.refl (fun _ => False) w5).drew.trans' hk6); have HEq := Lib.hid hc6; clear hk6 hc6)
          | (go_at_call 11; (with_reducible refine (HEq.out _ (by first | exact Kept.refl _ _ | exact (Kept.refl _ _).drew)).mono ?_); rintro e w7 ⟨rfl, hk7⟩; have HK7 := Lib.hid ((Kept.refl (fun _ => False) w5).drew.trans' hk7); clear hk7))
        clear x0 HAll HEq
        have HP8 := Lib.hid (HPQ6.out w7 HK7.out)
        have HP8L := Lib.hid (HP8.out.setL (c := cm) hs (HMZ.out.mv (MvZ.stay HK7.out)))
        have m1 := (HX.out w7 HK7.out).2.2
        obtain ⟨A9, c9, hb9, -⟩ := HP8.out.bl
        have l2 := hb9.cell
        have l3 := hb9.frozen
        have u1 := HP8L.out.bu.cell
        have u2 := HP8L.out.bu.frozen
        clear hb9
        go_upto_region 17 with fail
        obtain ⟨w9, ks, hw9, HPQ9, HBd9⟩ : ∃ w9 ks, w9 = (w7.setCell ⟨lb, 0, none⟩ (.slice Am hs.length cm)).setCell ⟨ub, 0, none⟩ (.bool false) ∧ Hid (PQ w0 w9 fb sb db ub mb lb F M T2 ps4 c4 lim a4 v qs parts' T2 false false ks hs) ∧ Hid (Bd i parts' ks) := ⟨_, hs, rfl, Lib.hid (HP8L.out.setU false), HBd⟩
        rw [← hw9]
        clear hw9 u1 u2 HP8 HP8L m1 l2 l3 HBd
      case' inr.inr =>
        have HBd := Lib.hid hbd
        have hcne2 : ¬ (ms.map PV.core = hs.map PV.core) := fun e => hcne (HBd.out.fold.trans e)
        have HAll := Lib.hid ((HPQ6.out _ (Kept.refl (fun _ => False) w5).drew).cs.allEq (c := cm) (Hq.out.trans HBd.out.fold) HBd.out hi (HMZ.out.here.kept (Kept.refl (fun _ => False) w5).drew))
        simp only [decide_eq_false hcne2] at HAll
        clear hbd hcne hcne2
        go_region_held3 (fun W => W.cell? ⟨sb, 0, none⟩ = some (.pointer (some ⟨T2, 0, none⟩)) ∧ W.cell? ⟨ub, 0, none⟩ = some (.bool true) ∧ W.cell? ⟨mb, 0, none⟩ = some (.slice Am hs.length cm)) (first | assumption | exact x0 | exact HX.out _ hk7 | exact HX.out _ HK7.out | exact HX.out _ HK6.out | simp [*]) (first
          | (go_at_call 12; refine HAll.out.mono ?_; rintro e w6 ⟨V, rfl, hk6, hc6⟩; have HK6 := Lib.hid ((Kept.refl (fun _ => False) w5).drew.trans' hk6); have HEq := Lib.hid hc6; clear hk6 hc6)
          | (go_at_call 11; (with_reducible refine (HEq.out _ (by first | exact Kept.refl _ _ | exact (Kept.refl _ _).drew)).mono ?_); rintro e w7 ⟨rfl, hk7⟩; have HK7 := Lib.hid ((Kept.refl (fun _ => False) w5).drew.trans' hk7); clear hk7))
        clear x0 HAll HEq
        have HP8 := Lib.hid (HPQ6.out w7 HK7.out)
        have u1 := HP8.out.bu.cell
        have u2 := HP8.out.bu.frozen
        go_upto_region 17 with fail
        obtain ⟨w9, ks, hw9, HPQ9, HBd9⟩ : ∃ w9 ks, w9 = w7.setCell ⟨ub, 0, none⟩ (.bool false) ∧ Hid (PQ w0 w9 fb sb db ub mb lb F M T2 ps4 c4 lim a4 v qs parts' T2 false false ks hs) ∧ Hid (Bd i parts' ks) := ⟨_, ms, rfl, Lib.hid (HP8.out.setU false), HBd⟩
        rw [← hw9]
        clear hw9 u1 u2 HP8 HBd
      all_goals
        clear HMZ HLZ HX HPQ6 HPQ5 hfin
        have f9 := HPQ9.out.bf.cell
        have HLs := Lib.hid (list_any w9 F M ps4 c4 lim a4 false HPQ9.out.cs.f (by have := (pair_D nAbKT HPQ9.out.cs.f.names HD4.out.only).2.1; omega) (fun p hp => by rcases (pair_D nAbKT HPQ9.out.cs.f.names HD4.out.only).1 p hp with e | e <;> rw [e] <;> decide))
        have HLen : Hid ((sortN ps4).length ≤ 2) := Lib.hid (by rw [sortN_len]; exact (pair_D nAbKT HPQ9.out.cs.f.names HD4.out.only).2.1)
        go_upto_region 18 with (first
          | (go_at_call 14; refine HLs.out.mono ?_; rintro e w10 ⟨B, A, c, rfl, hB, hS, hA, -, hk⟩; have hsq := seq_any 5 w10 B _ _ _ (sortN ps4) hB rfl (by have := HLen.out; omega) (by omega) hS (fun ad e => (hA ad e).2); rw [show ((5 : Nat) : Int) = 5 from rfl] at hsq; have HSq := Lib.hid hsq; clear hsq; have HK10 := Lib.hid hk; clear hB hS hA hk)
          | (go_at_call 13; refine HSq.out.mono ?_; rintro e w11 ⟨v11, rfl, ho, hk⟩; obtain ⟨A11, c11, rfl, hs11, -⟩ := Ss.of_own ho; have HS11 := Lib.hid hs11; have HK11 := Lib.hid (HK10.out.trans' hk); clear ho hs11 hk))
        have HPQ11 : Hid (∀ W, Kept (fun _ => False) w11 W → PQ w0 W fb sb db ub mb lb F M T2 ps4 c4 lim a4 v qs parts' T2 false false ks hs) := Lib.hid fun W hW => HPQ9.out.stay (HK11.out.trans' hW)
        obtain ⟨Ak, ck, hk5, hpk⟩ := (HPQ11.out w11 (Kept.refl _ _)).bl
        have HKZ := Lib.hid hpk
        have HY : Hid (∀ W, Kept (fun _ => False) w11 W → W.cell? ⟨sb, 0, none⟩ = some (.pointer (some ⟨T2, 0, none⟩)) ∧ W.cell? ⟨lb, 0, none⟩ = some (.slice Ak ks.length ck)) := Lib.hid fun W hW => ⟨(HPQ11.out W hW).bs.cell, Boxed.cell (hW.heap hk5 (by simp))⟩
        have y0 := HY.out w11 (Kept.refl _ _)
        clear hk5 hpk f9
        have HAe := Lib.hid ((HPQ11.out _ (Kept.refl (fun _ => False) w11).drew).cs.allEq (c := ck) (Hq.out.trans HBd9.out.fold) HBd9.out hi (HKZ.out.here.kept (Kept.refl (fun _ => False) w11).drew))
        simp only [decide_true] at HAe
        have HNo : Hid (∀ W, Kept (fun _ => False) w11 W → Calls Tryz.prog 15 #[.slice A11 (sortN ps4).length c11, .string ⟨#[97, 46, 98, 46, 116]⟩] W fun e w' => e = .returned (.bool false) ∧ w' = W) := Lib.hid fun W hW => in_no W A11 _ c11 (sortN ps4) _ rfl (by have := HLen.out; omega) (fun j x hx => by obtain ⟨ad, e, hc⟩ := HS11.out j x hx; exact ⟨ad, e, hW.cell hc (by simp)⟩) (by rw [show (⟨#[97, 46, 98, 46, 116]⟩ : ByteArray) = nabT from by decide]; exact sortN_not Hn4.out)
        go_region_held3 (fun W => W.cell? ⟨sb, 0, none⟩ = some (.pointer (some ⟨T2, 0, none⟩)) ∧ W.cell? ⟨lb, 0, none⟩ = some (.slice Ak ks.length ck)) (first | assumption | exact y0 | exact HY.out _ hk13 | exact HY.out _ HK13.out | exact HY.out _ HK12.out | simp [*]) (first
          | (go_at_call 12; refine HAe.out.mono ?_; rintro e w12 ⟨V, rfl, hk12, hc12⟩; have HK12 := Lib.hid ((Kept.refl (fun _ => False) w11).drew.trans' hk12); have HEq := Lib.hid hc12; clear hk12 hc12)
          | (go_at_call 11; (with_reducible refine (HEq.out _ (by first | exact Kept.refl _ _ | exact (Kept.refl _ _).drew)).mono ?_); rintro e w13 ⟨rfl, hk13⟩; have HK13 := Lib.hid ((Kept.refl (fun _ => False) w11).drew.trans' hk13); clear hk13)
          | (go_at_call 15; (with_reducible refine (HNo.out _ (by first | exact HK13.out | exact HK13.out.drew)).mono ?_); rintro e w14 ⟨rfl, rfl⟩))
        go_wp2_with fail
        go_ret
        have hp := HPQ11.out _ HK13.out
        exact ⟨rfl, T2, ps4, c4, a4, ks, parts', hp.pl HD4.out HBd9.out H.out.hl, ⟨Hn4.out, Hk4.out, v, qs, hp.cs, Hq.out.trans HBd9.out.fold⟩, hp.bd⟩
end Go.Proofs.YtcifhfdjigfeiaaGreatDoor
end
