import Derived.Test.YtcifhfdjigfeiaaGreatDoorAd
/-! courantlaw23.CompactPlays: the loop's variables, one set behind the other; the loop's state. -/
section
set_option linter.unusedVariables false
set_option linter.unusedSimpArgs false
namespace Go.Proofs.YtcifhfdjigfeiaaGreatDoor
open Go.RowKit

/-- What is held while the loop sets its variables, the files up or down. -/
structure PG (w0 W : World) (fb sb db ub mb lb F M T : Nat) (ps : List PF) (clock : Nat) (lim arm : Int) (dn : Bool) (v : Value) (qs : List PV) (nx sz : Nat) (dead : Bool) (sv : Nat) (dw un : Bool) (ls hs : List PV) : Prop where
  cs : CS W T F M nAb ps clock lim arm dn v qs nx sz dead
  bf : Boxed W fb 23 (.pointer (some ⟨F, 0, none⟩))
  bs : Boxed W sb 25 (.pointer (some ⟨sv, 0, none⟩))
  bd : Boxed W db 4 (.bool dw)
  bu : Boxed W ub 4 (.bool un)
  bl : ∃ A c, Boxed W lb 30 (.slice A ls.length c) ∧ PsZ W T F M ps [fb, sb, db, ub, mb, lb] A ls
  bm : ∃ A c, Boxed W mb 30 (.slice A hs.length c) ∧ PsZ W T F M ps [fb, sb, db, ub, mb, lb] A hs
  bx : BxZ W T F M ps [fb, sb, db, ub, mb, lb]
  dj : [fb, sb, db, ub, mb, lb].Nodup
  nT : w0.heap.size ≤ T
  nf : ∀ k ∈ foot F M ps, w0.heap.size ≤ k
  nb : ∀ b ∈ [fb, sb, db, ub, mb, lb], w0.heap.size ≤ b
  kept : Kept (fun _ => False) w0 W
section
variable {w0 w W W' : World} {fb sb db ub mb lb F M T T0 : Nat} {ps ps0 : List PF} {clock clock0 : Nat} {lim arm arm0 : Int} {dn0 : Bool} {dn dead : Bool} {v : Value} {qs : List PV} {nx sz : Nat} {parts parts0 : List (List PV)} {sv : Nat} {dw un st0 : Bool} {ls hs ms : List PV} {t0 : List UInt8} {i : Nat}
theorem PG.stay (h : PG w0 W fb sb db ub mb lb F M T ps clock lim arm dn v qs nx sz dead sv dw un ls hs) (hk : Kept (fun _ => False) W W') : PG w0 W' fb sb db ub mb lb F M T ps clock lim arm dn v qs nx sz dead sv dw un ls hs := by
  have mz : MvZ W T F M ps T ps [fb, sb, db, ub, mb, lb] W' := MvZ.stay hk
  refine ⟨h.cs.stay hk, hk.heap h.bf (by simp), hk.heap h.bs (by simp), hk.heap h.bd (by simp), hk.heap h.bu (by simp), ?_, ?_, h.bx.mv mz, h.dj, h.nT, h.nf, h.nb, h.kept.trans' hk⟩
  · obtain ⟨A, c, h1, h2⟩ := h.bl
    exact ⟨A, c, hk.heap h1 (by simp), h2.mv mz⟩
  · obtain ⟨A, c, h1, h2⟩ := h.bm
    exact ⟨A, c, hk.heap h1 (by simp), h2.mv mz⟩
theorem PG.off (h : PG w0 W fb sb db ub mb lb F M T ps clock lim arm dn v qs nx sz dead sv dw un ls hs) {b : Nat} {ty : TypeId} {x : Value} (hb : b ∈ [fb, sb, db, ub, mb, lb]) (hx : Boxed W b ty x) (h1 : 53 ≠ ty) (h2 : 5 ≠ ty) (u : Value) :
    CS (W.setCell ⟨b, 0, none⟩ u) T F M nAb ps clock lim arm dn v qs nx sz dead ∧ MvZ W T F M ps T ps [fb, sb, db, ub, mb, lb] (W.setCell ⟨b, 0, none⟩ u) ∧ Kept (fun _ => False) w0 (W.setCell ⟨b, 0, none⟩ u) := by
  have hbb := h.bx b hb
  exact ⟨h.cs.box hx h1 h2 hbb.1 hbb.2.1 u, MvZ.box hb (kF W b 0 u), h.kept.trans (kF W b 0 u) fun k hk e => by have := h.nb b hb; omega⟩
theorem PG.setS (h : PG w0 W fb sb db ub mb lb F M T ps clock lim arm dn v qs nx sz dead sv dw un ls hs) (sv' : Nat) : PG w0 (W.setCell ⟨sb, 0, none⟩ (.pointer (some ⟨sv', 0, none⟩))) fb sb db ub mb lb F M T ps clock lim arm dn v qs nx sz dead sv' dw un ls hs := by
  obtain ⟨g1, g2, g3⟩ := h.off (by simp) h.bs (by decide) (by decide) (.pointer (some ⟨sv', 0, none⟩))
  have hd := h.dj
  simp only [List.nodup_cons, List.mem_cons, List.not_mem_nil, or_false, not_or] at hd
  have hk := kF W sb 0 (.pointer (some ⟨sv', 0, none⟩))
  refine ⟨g1, hk.heap h.bf (by omega), h.bs.set _, hk.heap h.bd (by omega), hk.heap h.bu (by omega), ?_, ?_, h.bx.mv g2, h.dj, h.nT, h.nf, h.nb, g3⟩
  · obtain ⟨A, c, h1, h2⟩ := h.bl
    exact ⟨A, c, hk.heap h1 (by omega), h2.mv g2⟩
  · obtain ⟨A, c, h1, h2⟩ := h.bm
    exact ⟨A, c, hk.heap h1 (by omega), h2.mv g2⟩
theorem PG.setD (h : PG w0 W fb sb db ub mb lb F M T ps clock lim arm dn v qs nx sz dead sv dw un ls hs) (dw' : Bool) : PG w0 (W.setCell ⟨db, 0, none⟩ (.bool dw')) fb sb db ub mb lb F M T ps clock lim arm dn v qs nx sz dead sv dw' un ls hs := by
  obtain ⟨g1, g2, g3⟩ := h.off (by simp) h.bd (by decide) (by decide) (.bool dw')
  have hd := h.dj
  simp only [List.nodup_cons, List.mem_cons, List.not_mem_nil, or_false, not_or] at hd
  have hk := kF W db 0 (.bool dw')
  refine ⟨g1, hk.heap h.bf (by omega), hk.heap h.bs (by omega), h.bd.set _, hk.heap h.bu (by omega), ?_, ?_, h.bx.mv g2, h.dj, h.nT, h.nf, h.nb, g3⟩
  · obtain ⟨A, c, h1, h2⟩ := h.bl
    exact ⟨A, c, hk.heap h1 (by omega), h2.mv g2⟩
  · obtain ⟨A, c, h1, h2⟩ := h.bm
    exact ⟨A, c, hk.heap h1 (by omega), h2.mv g2⟩
theorem PG.setU (h : PG w0 W fb sb db ub mb lb F M T ps clock lim arm dn v qs nx sz dead sv dw un ls hs) (un' : Bool) : PG w0 (W.setCell ⟨ub, 0, none⟩ (.bool un')) fb sb db ub mb lb F M T ps clock lim arm dn v qs nx sz dead sv dw un' ls hs := by
  obtain ⟨g1, g2, g3⟩ := h.off (by simp) h.bu (by decide) (by decide) (.bool un')
  have hd := h.dj
  simp only [List.nodup_cons, List.mem_cons, List.not_mem_nil, or_false, not_or] at hd
  have hk := kF W ub 0 (.bool un')
  refine ⟨g1, hk.heap h.bf (by omega), hk.heap h.bs (by omega), hk.heap h.bd (by omega), h.bu.set _, ?_, ?_, h.bx.mv g2, h.dj, h.nT, h.nf, h.nb, g3⟩
  · obtain ⟨A, c, h1, h2⟩ := h.bl
    exact ⟨A, c, hk.heap h1 (by omega), h2.mv g2⟩
  · obtain ⟨A, c, h1, h2⟩ := h.bm
    exact ⟨A, c, hk.heap h1 (by omega), h2.mv g2⟩
theorem PG.setL (h : PG w0 W fb sb db ub mb lb F M T ps clock lim arm dn v qs nx sz dead sv dw un ls hs) {A : Option Addr} {c : Nat} (ls' : List PV) (hp : PsZ W T F M ps [fb, sb, db, ub, mb, lb] A ls') : PG w0 (W.setCell ⟨lb, 0, none⟩ (.slice A ls'.length c)) fb sb db ub mb lb F M T ps clock lim arm dn v qs nx sz dead sv dw un ls' hs := by
  obtain ⟨A0, c0, h1, h2⟩ := h.bl
  obtain ⟨g1, g2, g3⟩ := h.off (by simp) h1 (by decide) (by decide) (.slice A ls'.length c)
  have hd := h.dj
  simp only [List.nodup_cons, List.mem_cons, List.not_mem_nil, or_false, not_or] at hd
  have hk := kF W lb 0 (.slice A ls'.length c)
  refine ⟨g1, hk.heap h.bf (by omega), hk.heap h.bs (by omega), hk.heap h.bd (by omega), hk.heap h.bu (by omega), ?_, ?_, h.bx.mv g2, h.dj, h.nT, h.nf, h.nb, g3⟩
  · exact ⟨A, c, h1.set _, hp.mv g2⟩
  · obtain ⟨A, c, h1, h2⟩ := h.bm
    exact ⟨A, c, hk.heap h1 (by omega), h2.mv g2⟩
theorem PG.setM (h : PG w0 W fb sb db ub mb lb F M T ps clock lim arm dn v qs nx sz dead sv dw un ls hs) {A : Option Addr} {c : Nat} (hs' : List PV) (hp : PsZ W T F M ps [fb, sb, db, ub, mb, lb] A hs') : PG w0 (W.setCell ⟨mb, 0, none⟩ (.slice A hs'.length c)) fb sb db ub mb lb F M T ps clock lim arm dn v qs nx sz dead sv dw un ls hs' := by
  obtain ⟨A0, c0, h1, h2⟩ := h.bm
  obtain ⟨g1, g2, g3⟩ := h.off (by simp) h1 (by decide) (by decide) (.slice A hs'.length c)
  have hd := h.dj
  simp only [List.nodup_cons, List.mem_cons, List.not_mem_nil, or_false, not_or] at hd
  have hk := kF W mb 0 (.slice A hs'.length c)
  refine ⟨g1, hk.heap h.bf (by omega), hk.heap h.bs (by omega), hk.heap h.bd (by omega), hk.heap h.bu (by omega), ?_, ?_, h.bx.mv g2, h.dj, h.nT, h.nf, h.nb, g3⟩
  · obtain ⟨A, c, h1, h2⟩ := h.bl
    exact ⟨A, c, hk.heap h1 (by omega), h2.mv g2⟩
  · exact ⟨A, c, h1.set _, hp.mv g2⟩
/-- Behind a call on the store. -/
theorem PL.pg (h : PL w0 w fb sb db ub mb lb F M T ps0 clock0 lim arm0 dn0 un ms hs parts0 t0 st0 i) (hdb : Boxed w db 4 (.bool dw)) (hc : CS W T F M nAb ps clock lim arm dn v qs nx sz dead) (mv : Moved w T F M ps0 ps W) :
    PG w0 W fb sb db ub mb lb F M T ps clock lim arm dn v qs nx sz dead T dw un ms hs := by
  have mz : MvZ w T F M ps0 T ps [fb, sb, db, ub, mb, lb] W := MvZ.moved mv
  refine ⟨hc, boxed_mv h.bf h.bx (by simp) mv, boxed_mv h.bs h.bx (by simp) mv, boxed_mv hdb h.bx (by simp) mv, boxed_mv h.bu h.bx (by simp) mv, ?_, ?_, h.bx.mv mz, h.dj, h.nT, fun k hk => (mv.feet k hk).elim (h.nf k) fun e => Nat.le_trans h.kept.size e, h.nb, h.kept.trans mv.kept fun k hk e => ?_⟩
  · obtain ⟨A, c, h1, h2⟩ := h.bl
    exact ⟨A, c, boxed_mv h1 h.bx (by simp) mv, h2.mv mz⟩
  · obtain ⟨A, c, h1, h2⟩ := h.bm
    exact ⟨A, c, boxed_mv h1 h.bx (by simp) mv, h2.mv mz⟩
  · rcases e with e | e
    · have := h.nT; omega
    · have := h.nf k e; omega
/-- All is set. -/
theorem PG.pl {t : List UInt8} {st : Bool} (h : PG w0 W fb sb db ub mb lb F M T ps clock lim arm dn v qs nx sz dead T dw un ls hs) (hd : DK (lk ps) parts t st) (ht : Tl i parts t un hs) (hb : Bd i parts ls) (hu : dn = false → t = [] ∧ st = true) (hl : hs.length ≤ 5000) : PL w0 W fb sb db ub mb lb F M T ps clock lim arm dn un ls hs parts t st i :=
  ⟨h.cs.f, hd, ht, hb, hu, h.bf, h.bs, h.bu, h.bl, h.bm, h.bx, h.dj, h.nT, h.nf, h.nb, h.kept, hl⟩
end
/-- The loop's state. -/
structure LS (w0 W : World) (fb sb db ub mb lb F M T : Nat) (dw rm : Bool) (i : Nat) : Prop where
  ex : ∃ ps clock lim arm dn un ms hs parts t st, PL w0 W fb sb db ub mb lb F M T ps clock lim arm dn un ms hs parts t st i ∧ Boxed W db 4 (.bool dw) ∧ (rm = true → lim = 1048576) ∧ (dw = false → dn = false ∧ Alive W T F M ps clock lim arm parts ms) ∧ (dw = true → dn = true ∧ T ∉ foot F M ps ∧ ∃ v next size dead, SB W T F nAb v next size dead)
/-- Behind a fall. -/
structure LC (w0 W : World) (fb sb db ub mb lb F M : Nat) (rm : Bool) (i : Nat) : Prop where
  ex : ∃ T dw ps clock lim arm dn un ms hs parts t st, PL w0 W fb sb db ub mb lb F M T ps clock lim arm dn un ms hs parts t st i ∧ Boxed W db 4 (.bool dw) ∧ (rm = true → lim = 1048576)
section
variable {w0 W W' : World} {fb sb db ub mb lb F M T : Nat} {dw rm : Bool} {i : Nat}
theorem LS.lc (h : LS w0 W fb sb db ub mb lb F M T dw rm i) : LC w0 W fb sb db ub mb lb F M rm i := by
  obtain ⟨ps, clock, lim, arm, dn, un, ms, hs, parts, t, st, h1, h2, h3, -⟩ := h.ex
  exact ⟨T, dw, ps, clock, lim, arm, dn, un, ms, hs, parts, t, st, h1, h2, h3⟩
theorem LS.stay (h : LS w0 W fb sb db ub mb lb F M T dw rm i) (hk : Kept (fun _ => False) W W') : LS w0 W' fb sb db ub mb lb F M T dw rm i := by
  obtain ⟨ps, clock, lim, arm, dn, un, ms, hs, parts, t, st, h1, h2, h3, h4, h5⟩ := h.ex
  refine ⟨ps, clock, lim, arm, dn, un, ms, hs, parts, t, st, h1.stay hk, hk.heap h2 (by simp), h3, fun e => ?_, fun e => ?_⟩
  · obtain ⟨g1, g2⟩ := h4 e
    obtain ⟨v, qs, g3, g4⟩ := g2.cs
    exact ⟨g1, g2.nt, g2.k, v, qs, g3.stay hk, g4⟩
  · obtain ⟨g1, g2, v, n, s, d, g3⟩ := h5 e
    exact ⟨g1, g2, v, n, s, d, g3.kept' hk⟩
theorem LS.mono {j : Nat} (h : LS w0 W fb sb db ub mb lb F M T dw rm i) (hij : i ≤ j) : LS w0 W fb sb db ub mb lb F M T dw rm j := by
  obtain ⟨ps, clock, lim, arm, dn, un, ms, hs, parts, t, st, h1, h2⟩ := h.ex
  exact ⟨ps, clock, lim, arm, dn, un, ms, hs, parts, t, st, h1.mono hij, h2⟩
theorem LS.cells (h : LS w0 W fb sb db ub mb lb F M T dw rm i) : W.cell? ⟨fb, 0, none⟩ = some (.pointer (some ⟨F, 0, none⟩)) ∧ W.cell? ⟨sb, 0, none⟩ = some (.pointer (some ⟨T, 0, none⟩)) ∧ W.cell? ⟨db, 0, none⟩ = some (.bool dw) ∧ W.frozen? ⟨db, 0, none⟩ = false := by
  obtain ⟨ps, clock, lim, arm, dn, un, ms, hs, parts, t, st, h1, h2, -⟩ := h.ex
  exact ⟨h1.bf.cell, h1.bs.cell, h2.cell, h2.frozen⟩
theorem PL.nTb {ps : List PF} {clock : Nat} {lim arm : Int} {dn un : Bool} {ms hs : List PV} {parts : List (List PV)} {t : List UInt8} {st : Bool} (h : PL w0 W fb sb db ub mb lb F M T ps clock lim arm dn un ms hs parts t st i) : db ≠ T ∧ db ∉ foot F M ps := ⟨(h.bx db (by simp)).1, (h.bx db (by simp)).2.1⟩
theorem LS.armed (h : LS w0 W fb sb db ub mb lb F M T dw rm i) (n : Int) (hn : n ≤ 9223372036854775807) : Calls Tryz.prog 9 #[.pointer (some ⟨F, 0, none⟩), .int .i64 n] W fun e w' => e = .returned (.tuple #[]) ∧ LS w0 w' fb sb db ub mb lb F M T dw rm i := by
  obtain ⟨ps, clock, lim, arm, dn, un, ms, hs, parts, t, st, h1, h2, h3, h4, h5⟩ := h.ex
  refine (arm_any n W F M lim arm dn h1.f.fb).mono ?_
  rintro e w' ⟨he, hb, hk⟩
  have hm : Moved W T F M ps ps w' := Moved.hit hk
  have ha : 0 ≤ armI n ∧ armI n ≤ 9223372036854775807 := by unfold armI; split <;> omega
  refine ⟨he, ps, clock, lim, armI n, dn, un, ms, hs, parts, t, st, h1.moved hm (h1.f.own hk hb h1.f.lim0 ha) h1.dk h1.tl h1.up, boxed_mv h2 h1.bx (by simp) hm, h3, fun e => ?_, fun e => ?_⟩
  · obtain ⟨g1, g2⟩ := h4 e
    subst g1
    obtain ⟨v, qs, g3, g4⟩ := g2.cs
    exact ⟨rfl, g2.nt, g2.k, v, qs, g3.armed hb hk h1.f.lim0 ha, g4⟩
  · obtain ⟨g1, g2, v, n', s, d, g3⟩ := h5 e
    exact ⟨g1, g2, v, n', s, d, g3.kept hk fun e2 => g2 (by rw [e2]; simp [foot])⟩
theorem LS.limited (h : LS w0 W fb sb db ub mb lb F M T dw rm i) (n : Int) : Calls Tryz.prog 16 #[.pointer (some ⟨F, 0, none⟩), .int .i64 n] W fun e w' => e = .returned (.tuple #[]) ∧ LS w0 w' fb sb db ub mb lb F M T dw false i := by
  obtain ⟨ps, clock, lim, arm, dn, un, ms, hs, parts, t, st, h1, h2, h3, h4, h5⟩ := h.ex
  refine (limit_any n W F M lim arm dn h1.f.fb).mono ?_
  rintro e w' ⟨he, hb, hk⟩
  have hm : Moved W T F M ps ps w' := Moved.hit hk
  have hl : 0 ≤ boundI n ∧ boundI n ≤ 4194304 := by unfold boundI; split <;> (try split) <;> omega
  refine ⟨he, ps, clock, boundI n, arm, dn, un, ms, hs, parts, t, st, h1.moved hm (h1.f.own hk hb hl h1.f.arm0) h1.dk h1.tl h1.up, boxed_mv h2 h1.bx (by simp) hm, fun e => by simp at e, fun e => ?_, fun e => ?_⟩
  · obtain ⟨g1, g2⟩ := h4 e
    subst g1
    obtain ⟨v, qs, g3, g4⟩ := g2.cs
    exact ⟨rfl, g2.nt, g2.k, v, qs, g3.armed hb hk hl h1.f.arm0, g4⟩
  · obtain ⟨g1, g2, v, n', s, d, g3⟩ := h5 e
    exact ⟨g1, g2, v, n', s, d, g3.kept hk fun e2 => g2 (by rw [e2]; simp [foot])⟩
theorem LS.crashed (h : LS w0 W fb sb db ub mb lb F M T dw rm i) {A : Option Addr} {n c : Nat} (hks : ∀ j, j < n → ∃ ad z, A = some ad ∧ w0.cell? (ad.add j) = some (.int .i64 z)) : Calls Tryz.prog 10 #[.pointer (some ⟨F, 0, none⟩), .slice A n c] W fun e w' => e = .returned (.tuple #[]) ∧ LC w0 w' fb sb db ub mb lb F M rm i := by
  obtain ⟨ps, clock, lim, arm, dn, un, ms, hs, parts, t, st, h1, h2, h3, -⟩ := h.ex
  have hsm := h1.small
  refine (crash_any W F M ps clock lim arm dn A n c h1.f hsm.1 hsm.2.1 (Lib.hid fun j hj => ?_)).mono ?_
  · obtain ⟨ad, z, e, hc⟩ := hks j hj
    refine ⟨ad, z, e, fun hm => ?_, h1.kept.cell hc (by simp)⟩
    have h4 := World.block_lt_of_cell? w0 _ hc
    rw [add_block] at h4
    have := h1.nf _ hm
    omega
  · rintro e w' ⟨he, qs, hw, ha⟩
    obtain ⟨k, hk⟩ := h1.dk.fell ha.fell
    have hm : Moved W T F M ps qs w' := Moved.went hw
    exact ⟨he, T, dw, qs, clock, lim, arm, true, un, ms, hs, parts, _, true, h1.moved hm hw.at_ hk (h1.tl.take k) (fun e => by cases e), boxed_mv h2 h1.bx (by simp) hm, h3⟩
end
end Go.Proofs.YtcifhfdjigfeiaaGreatDoor
end

/-! compact.Put once more: the new pairs lie in new blocks. -/
section
set_option linter.unusedVariables false
set_option linter.unusedSimpArgs false
namespace Go.Proofs.YtcifhfdjigfeiaaGreatDoor
open Go.RowKit

def PutPost2 (w : World) (T F M : Nat) (nm : ByteArray) (ps : List PF) (clock : Nat) (lim arm : Int) (v : Value) (qs : List PV) (next size : Nat) (ms : List PV) (e : Ending) (w' : World) : Prop :=
  ∃ er, e = .returned (.int .i64 er) ∧
    ((er = 0 ∧ ∃ ps' c' v' qs', CS w' T F M nm ps' c' lim (decA (decA arm)) false v' qs' (next + 1) (size + ((bytesP ms).length + 16)) false ∧ Moved w T F M ps ps' w' ∧ lk ps' = (lk ps).put (nm ++ dotK) (some ((oldB (lk ps (nm ++ dotK))).1 ++ frameB next (bytesP ms), ((oldB (lk ps (nm ++ dotK))).1 ++ frameB next (bytesP ms)).length)) ∧ qs'.map PV.core = putC (qs.map PV.core) (ms.map PV.core) ∧ (∀ k, v'.ownBlock = some k → w.heap.size ≤ k) ∧ (∀ q ∈ qs', ∀ k, q.val.ownBlock = some k → w.heap.size ≤ k)) ∨
     (er = 14 ∧ lim < (((bytesP ms).length + 16 : Nat) : Int) + (usedL ps : Int) ∧ CS w' T F M nm ps clock lim arm false v qs next size false ∧ Moved w T F M ps ps w') ∨
     (er = 13 ∧ arm ≠ 0 ∧ ∃ ps' c' arm', CS w' T F M nm ps' c' lim arm' true v qs next size true ∧ Moved w T F M ps ps' w' ∧ lk ps' = (lk ps).put (nm ++ dotK) (some ((oldB (lk ps (nm ++ dotK))).1 ++ frameB next (bytesP ms), (oldB (lk ps (nm ++ dotK))).2))))
set_option maxRecDepth 100000 in
set_option maxHeartbeats 8000000 in
theorem put_D2 (w : World) (T F M : Nat) (nm : ByteArray) (ps : List PF) (clock : Nat) (lim arm : Int) (v : Value) (qs : List PV) (next size : Nat) (B : Option Addr) (m c2 : Nat) (ms : List PV)
    (h : CS w T F M nm ps clock lim arm false v qs next size false) (hm : m = ms.length) (hms : ∀ W, Kept (fun k => k = T ∨ k ∈ foot F M ps) w W → PsAt W B ms) (hq : qs.length + m ≤ 300000) (hb1 : ∀ q ∈ qs, q.b.length ≤ 1000000000) (hb2 : ∀ q ∈ ms, q.b.length ≤ 1000000000)
    (hby : (bytesP ms).length ≤ 32768) (hne : next ≤ 1000000000) (hsz : size ≤ 1000000000) (hu : usedL ps ≤ 4194304) (hnm : nm.size ≤ 1000000) (hfu : fullB (nm ++ dotK) = true) :
    Calls Tryz.prog 21 #[.pointer (some ⟨T, 0, none⟩), .slice B m c2] w (PutPost2 w T F M nm ps clock lim arm v qs next size ms) := by
  have H := Lib.hid h
  have HM := Lib.hid hm
  have HMs := Lib.hid hms
  have HB1 := Lib.hid hb1
  have HB2 := Lib.hid hb2
  have HU := Lib.hid hu
  have hs1 : nm.size ≤ 9223372036854775805 := by omega
  have hs2 : nm.size + 2 ≤ 9223372036854775807 := by omega
  have hs3 : ¬ 9223372036854775807 < nm.size + 2 := by omega
  have HR := Lib.hid (cready_ok w T F M nm v next size lim arm h.sb h.f.fb)
  have HKB : Hid (∀ W, Kept (fun k => k = T ∨ k ∈ foot F M ps) w W → Calls Tryz.prog 43 #[.slice B m c2] W (ClonePost W (bytesP ms))) := Lib.hid fun W hk => kBytes_any W B m c2 ms hm (by omega) (hms W hk)
  have c3 := h.sb.c3
  obtain ⟨bn, hbn⟩ : ∃ bn, bn = (bytesP ms).length := ⟨_, rfl⟩
  have Hbn := Lib.hid hbn
  have hbn9 : bn ≤ 32768 := by omega
  have HKT : Hid (∀ W, Kept (fun _ => False) w W → SB W T F nm v next size false) := Lib.hid fun W hk => h.sb.kept' hk
  clear hm hms hb1 hb2 hby hbn hu
  obtain ⟨Av, cv, rfl, hAv, -, -⟩ := h.at_
  have HAv := Lib.hid hAv
  clear h hAv
  go_enter Tryz.func21, Tryz.ntmps21
  go_upto_region 4 with (go_at_call 37; refine HR.out.mono ?_; rintro e w ⟨rfl, rfl⟩)
  go_region_held3 (fun W => W.cell? ⟨T, 3, none⟩ = some (.int .u64 (next : Nat))) (first | assumption | exact c3 | exact HK1c.out | exact HK2c.out | simp [*]) (first
    | (go_at_call 42; refine (make_any w1 next A1 (bytesP ms).length c1 (bytesP ms) (by omega) rfl (by rw [← Hbn.out]; exact hbn9) HBs1.out HA1.out).mono ?_; rintro e w2 ⟨v2, rfl, ho, hk⟩; have HO2 := Lib.hid ho; have HK2 := Lib.hid (HK1.out.trans' hk); have HK2c := Lib.hid (HKT.out _ HK2.out).c3; clear ho hk)
    | (go_at_call 43; refine (HKB.out _ (((Kept.refl (fun _ => False) _).drew).mono fun _ _ h => h.elim)).mono ?_; rintro e w1 hP; obtain ⟨A1, c1, rfl, ha, hb, hc⟩ := ClonePost.acc hP; have HBs1 := Lib.hid hb; have HA1 := Lib.hid hc; have HK1 := Lib.hid ((Kept.refl (fun _ => False) _).drew.trans' ha.2); have HK1c := Lib.hid (HKT.out _ HK1.out).c3; clear hP ha hb hc))
  all_goals
    obtain ⟨A2, c3', rfl⟩ := own_slice HO2.out
    obtain ⟨n2, hn2⟩ : ∃ n2, n2 = (frameB next (bytesP ms)).length := ⟨_, rfl⟩
    rw [← hn2]
    have Hn2 := Lib.hid hn2
    have hn29 : n2 = bn + 16 := by rw [hn2, frameB_len, Hbn.out]
    have Hn29 := Lib.hid hn29
    have hn2b : (n2 : Int) ≤ 40000 := by omega
    obtain ⟨Ax, cx, hAx, -, hbx, hAn, hbo⟩ := Bs.of_own HO2.out
    rw [← hn2] at hAx
    simp only [Value.slice.injEq] at hAx
    obtain ⟨rfl, -, rfl⟩ := hAx
    have HBx := Lib.hid hbx
    have HAn := Lib.hid hAn
    have HO2' := Lib.hid (own_ge HO2.out)
    have HK2d : Hid (Kept (fun _ => False) w w2.drew) := Lib.hid HK2.out.drew
    have HSt2 := Lib.hid (H.out.stay HK2d.out)
    have HBo : Hid (∀ ad, A2 = some ad → frameB next (bytesP ms) = [] ∨ ad.block ≠ M) := Lib.hid fun ad e => .inr fun e2 => by
      have h1 := HO2'.out ad.block (by rw [e]; rfl)
      have h2 := H.out.f.lt M (by simp [foot])
      have h3 := HK1.out.size
      omega
    have d0 := (HKT.out _ HK2.out).c0
    have d1 := (HKT.out _ HK2.out).c1
    have HAp := Lib.hid (appR_any (nm ++ dotK) A2 n2 c3' (frameB next (bytesP ms)) HSt2.out.f (by rw [size_dotK]; omega) hfu HU.out (hbx.kept (Kept.refl (fun _ => False) w2).drew (by simp)) hn2 (by omega) hAn HBo.out)
    rw [show dotK = ⟨#[46, 107]⟩ from rfl] at HAp
    clear hbo hn2 hn29 hbx hAn c3
    go_upto_region 7 with fail
  all_goals go_region_held3 (fun W => W.cell? ⟨T, 0, none⟩ = some (.pointer (some ⟨F, 0, none⟩)) ∧ W.cell? ⟨T, 1, none⟩ = some (.string nm)) (first | assumption | exact ⟨d0, d1⟩ | exact ⟨HSB3.out.c0, HSB3.out.c1⟩ | exact ⟨HSB4.out.c0, HSB4.out.c1⟩ | simp [*]) (first
    | (go_at_call 39; refine (met_any w3 T F nm _ next size false er HSB3.out).mono ?_; rintro e w4 ⟨rfl, hsb, hk⟩; have HSB4 := Lib.hid hsb; have HKT4 := Lib.hid hk; clear hsb hk)
    | (go_at_call 44; refine HAp.out.mono ?_; rintro e w3 ⟨er, rfl, hap⟩; have HAp3 := Lib.hid hap; have HSB3 : Hid (SB w3 T F nm (.slice Av qs.length cv) next size false) := Lib.hid (by rcases hap with ⟨-, -, hk⟩ | ⟨ps', c', (⟨-, -, hw⟩ | ⟨-, -, hw⟩), -⟩; exact HSt2.out.sb.kept' hk; exact HSt2.out.sb.kept hw.kept HSt2.out.nT; exact HSt2.out.sb.kept hw.kept HSt2.out.nT); clear hap))
  all_goals
    go_upto_region 8 with fail
    have HM2 : Hid (Moved w T F M ps ps w2.drew) := Lib.hid (Moved.stay HK2d.out)
    rcases HAp3.out with ⟨rfl, hfull, hk3⟩ | ⟨ps3, clk3, hw3, hd3⟩
    · have HFu := Lib.hid hfull
      have HC4 := Lib.hid ((HSt2.out.stay hk3).turn (by simpa using HSB4.out) HKT4.out)
      have HM4 := Lib.hid ((HM2.out.trans (Moved.stay hk3)).trans (Moved.turn HKT4.out))
      clear hfull hk3
      go_wp2
      go_ret
      have h1 := HFu.out
      rw [frameB_len] at h1
      exact ⟨14, rfl, .inr (.inl ⟨rfl, h1, HC4.out, HM4.out⟩)⟩
    · rcases hw3 with ⟨rfl, ha, hw⟩ | ⟨rfl, ha, hw⟩
      · have HA := Lib.hid ha
        have HC4 := Lib.hid ((HSt2.out.went hw).turn (by simpa using HSB4.out) HKT4.out)
        have HM4 := Lib.hid ((HM2.out.trans (Moved.went hw)).trans (Moved.turn HKT4.out))
        have HD3 := Lib.hid hd3
        clear ha hw hd3
        go_wp2
        go_ret
        exact ⟨13, rfl, .inr (.inr ⟨rfl, by rw [HA.out]; decide, ps3, clk3, _, HC4.out, HM4.out, HD3.out⟩)⟩
      · have HA := Lib.hid ha
        have HC4 := Lib.hid ((HSt2.out.went hw).turn (by simpa using HSB4.out) HKT4.out)
        have HM4 := Lib.hid ((HM2.out.trans (Moved.went hw)).trans (Moved.turn HKT4.out))
        have HD3 := Lib.hid hd3
        have HC4d : Hid (CS w4.drew T F M nm ps3 clk3 lim (decA arm) false (.slice Av qs.length cv) qs next size false) := Lib.hid (HC4.out.stay (Kept.refl (fun _ => False) w4).drew)
        obtain ⟨f3, hf3⟩ : ∃ f3 : FV, f3 = ((oldB (lk ps (nm ++ dotK))).1 ++ frameB next (bytesP ms), (oldB (lk ps (nm ++ dotK))).2) := ⟨_, rfl⟩
        have hl3 : lk ps3 (nm ++ dotK) = some f3 := by rw [hd3, hf3]; exact Disk.put_same _ _ _
        have HSy := Lib.hid ((sync_D (nm ++ dotK) f3 HC4d.out.f hl3).mono fun e w' h => opR_of h)
        have Hf3 := Lib.hid hf3
        rw [show dotK = ⟨#[46, 107]⟩ from rfl] at HSy
        clear ha hw hd3 hf3 hl3 d0 d1
        have d0 := HC4.out.sb.c0
        have d1 := HC4.out.sb.c1
        go_upto_region 10 with fail
        go_region_held3 (fun W => W.cell? ⟨T, 0, none⟩ = some (.pointer (some ⟨F, 0, none⟩)) ∧ W.cell? ⟨T, 1, none⟩ = some (.string nm)) (first | assumption | exact ⟨d0, d1⟩ | exact ⟨HSB6.out.c0, HSB6.out.c1⟩ | exact ⟨HSB7.out.c0, HSB7.out.c1⟩ | simp [*]) (first
          | (go_at_call 39; refine (met_any w6 T F nm _ next size false er6 HSB6.out).mono ?_; rintro e w7 ⟨rfl, hsb, hk⟩; have HSB7 := Lib.hid hsb; have HKT7 := Lib.hid hk; clear hsb hk)
          | (go_at_call 45; refine HSy.out.mono ?_; rintro e w6 ⟨er6, rfl, hop⟩; have HOp := Lib.hid hop; have HSB6 : Hid (SB w6 T F nm (.slice Av qs.length cv) next size false) := Lib.hid (by obtain ⟨ps', c', (⟨-, -, hw, -⟩ | ⟨-, -, hw, -⟩)⟩ := hop; exact HC4d.out.sb.kept hw.kept HC4d.out.nT; exact HC4d.out.sb.kept hw.kept HC4d.out.nT); clear hop))
        all_goals
          go_upto_region 11 with fail
          have HM4d : Hid (Moved w T F M ps ps3 w4.drew) := Lib.hid (HM4.out.trans (Moved.stay (Kept.refl (fun _ => False) w4).drew))
          obtain ⟨ps6, c6, hop⟩ := HOp.out
          rcases hop with ⟨rfl, ha, hw, hd⟩ | ⟨rfl, ha, hw, hd⟩
          · have HA6 := Lib.hid ha
            have HC7 := Lib.hid ((HC4d.out.went hw).turn (by simpa using HSB7.out) HKT7.out)
            have HM7 := Lib.hid ((HM4d.out.trans (Moved.went hw)).trans (Moved.turn HKT7.out))
            have HD6 := Lib.hid hd
            clear ha hw hd
            go_wp2
            go_ret
            refine ⟨13, rfl, .inr (.inr ⟨rfl, fun e => ?_, ps6, c6, _, HC7.out, HM7.out, HD6.out.trans HD3.out⟩)⟩
            have h1 := HA6.out
            rw [decA0 e] at h1
            omega
          · have HC7 := Lib.hid ((HC4d.out.went hw).turn (by simpa using HSB7.out) HKT7.out)
            have HM7 := Lib.hid ((HM4d.out.trans (Moved.went hw)).trans (Moved.turn HKT7.out))
            have HD6 := Lib.hid hd
            clear ha hw hd d0 d1
            obtain ⟨Av', cv', hav, -, -, hat7⟩ := HC7.out.at_
            simp only [Value.slice.injEq] at hav
            obtain ⟨rfl, -, rfl⟩ := hav
            have HPut := Lib.hid (kPut_any w7 Av B qs.length cv m c2 qs ms rfl HM.out (by omega) HB1.out HB2.out hat7 (HMs.out w7 HM7.out.kept))
            have t2 := HC7.out.sb.c2
            clear hat7
            go_upto_region 14 with (go_at_call 33; refine HPut.out.mono ?_; rintro e w8 ⟨v8, q8, rfl, hp, hc⟩; have HP8 := Lib.hid hp; have HC8 := Lib.hid hc; have t8 := (HC7.out.sb.kept' hp.kept).c2; have t8f := (HC7.out.sb.kept' hp.kept).fz 2; obtain ⟨A8, c8, rfl⟩ := own_slice hp.row; clear hp hc)
            obtain ⟨hst9, hk9⟩ := HC7.out.pairs HP8.out
            obtain ⟨W9, hW9⟩ : ∃ W9, W9 = w8.setCell ⟨T, 2, none⟩ (.slice A8 q8.length c8) := ⟨_, rfl⟩
            rw [← hW9] at hst9 hk9 ⊢
            have HSt9 := Lib.hid hst9
            have HK9 := Lib.hid hk9
            have u3 := hst9.sb.c3
            have u3f := hst9.sb.fz 3
            have hne9 : (next : Int) ≤ 1000000000 := by omega
            clear hW9 hst9 hk9 t8 t8f t2
            go_upto_region 15 with fail
            obtain ⟨W10, hW10⟩ : ∃ W10, W10 = W9.setCell ⟨T, 3, none⟩ (.int .u64 ((next : Int) + 1)) := ⟨_, rfl⟩
            have hk10 : Kept (fun k => k = T) W9 W10 := by rw [hW10]; exact kF W9 T 3 _
            have hst10 := HSt9.out.turn (by rw [hW10]; exact HSt9.out.sb.s3 (next + 1)) hk10
            rw [← hW10]
            have HSt10 := Lib.hid hst10
            have HK10 := Lib.hid hk10
            have u4 := hst10.sb.c4
            have u4f := hst10.sb.fz 4
            have hsz9 : (size : Int) ≤ 1000000000 := by omega
            clear hW10 hk10 hst10 u3 u3f
            go_wp2
            go_ret
            have hk11 : Kept (fun k => k = T) W10 (W10.setCell ⟨T, 4, none⟩ (.int .i64 ((size : Int) + (n2 : Int)))) := kF W10 T 4 _
            have hn2 := Hn29.out
            have hbn := Hbn.out
            have hst11 := HSt10.out.turn (size' := size + n2) (by have := HSt10.out.sb.s4 (size + n2); rw [show ((size + n2 : Nat) : Int) = (size : Int) + (n2 : Int) by omega] at this; exact this) hk11
            rw [hn2, hbn] at hst11
            refine ⟨0, rfl, .inl ⟨rfl, ps6, c6, .slice A8 q8.length c8, q8, ?_, ((HM7.out.trans (Moved.turn HK9.out)).trans (Moved.turn HK10.out)).trans (Moved.turn hk11), ?_, HC8.out, fun k e => Nat.le_trans HM7.out.kept.size (own_ge HP8.out.row k e), fun q hq k e => Nat.le_trans HM7.out.kept.size (own_ge (HP8.out.own q hq) k e)⟩⟩
            · rw [hn2, hbn]
              exact hst11
            · rw [HD6.out, HD3.out, Hf3.out, put_put]
              rfl
end Go.Proofs.YtcifhfdjigfeiaaGreatDoor
end
