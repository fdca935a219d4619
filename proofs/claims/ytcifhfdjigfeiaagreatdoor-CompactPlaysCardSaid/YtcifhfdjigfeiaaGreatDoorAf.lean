import Derived.Test.YtcifhfdjigfeiaaGreatDoorAe
import Derived.Test.YtcifhfdjigfeiaaGreatDoorAd
/-! courantlaw23.CompactPlays: Compact in the loop's state. -/
section
set_option linter.unusedVariables false
set_option linter.unusedSimpArgs false
namespace Go.Proofs.YtcifhfdjigfeiaaGreatDoor
open Go.RowKit

theorem cut_ex {qs : List PV} (hl : qs.length ≤ 8000) (hw : ∀ q ∈ qs, wt q ≤ 3000) : Cut qs (cutF qs) := by
  have key : ∀ k, k ≤ qs.length → (cutS qs k).2 ≤ k ∧ (0 < k → (cutS qs k).2 < k) ∧ Cl qs (cutS qs k).2 (cutS qs k).1 ∧ (bytesP (seg qs (cutS qs k).2 k)).length ≤ 32768 := by
    intro k
    induction k with
    | zero => exact fun _ => ⟨Nat.le_refl _, fun h => absurd h (Nat.lt_irrefl _), Cl.nil qs, by show (bytesP (seg qs 0 0)).length ≤ 32768; rw [seg_self]; decide⟩
    | succ k ih =>
      intro hk
      obtain ⟨h1, h2, h3, h4⟩ := ih (by omega)
      have hq : qs[k]? = some qs[k] := List.getElem?_eq_getElem (by omega)
      have hwq := hw qs[k] (List.getElem_mem _)
      by_cases hb : 32768 < (bytesP (seg qs (cutS qs k).2 (k + 1))).length
      · have e : cutS qs (k + 1) = ((cutS qs k).1 ++ [seg qs (cutS qs k).2 k], k) := by show (if _ then _ else _) = _; rw [if_pos hb]
        have hlt : (cutS qs k).2 < k := by
          rcases Nat.lt_or_ge (cutS qs k).2 k with h | h
          · exact h
          · have e2 : (cutS qs k).2 = k := by omega
            rw [e2] at hb
            have := seg_one hq hwq
            omega
        rw [e]
        exact ⟨Nat.le_succ _, fun _ => Nat.lt_succ_self _, h3.snoc hlt (by omega) (seg_full h1 hq hwq hl hb) h4, seg_one hq hwq⟩
      · have e : cutS qs (k + 1) = cutS qs k := by show (if _ then _ else _) = _; rw [if_neg hb]
        rw [e]
        exact ⟨by omega, fun _ => by omega, h3, by omega⟩
  obtain ⟨h1, h2, h3, h4⟩ := key qs.length (Nat.le_refl _)
  by_cases h0 : 0 < qs.length
  · have := h3.last (h2 h0) h4 rfl
    rw [this.is] at this
    exact this
  · have e : (cutS qs qs.length).2 = qs.length := by omega
    have h5 : Cl qs qs.length (cutS qs qs.length).1 := by rw [e] at h3; exact h3
    have := h5.done (Prod.ext rfl e)
    rw [this.is] at this
    exact this
theorem frs_len (parts : List (List PV)) : (frs parts).length = frLen parts := frsL_len 0 parts
section
variable {w0 W W' : World} {fb sb db ub mb lb F M T : Nat} {dw rm : Bool} {i : Nat}
theorem Alive.used {ps : List PF} {clock : Nat} {lim arm : Int} {un : Bool} {ms hs : List PV} {parts : List (List PV)} {t : List UInt8} {st : Bool} (h : Alive W T F M ps clock lim arm parts ms) (h1 : PL w0 W fb sb db ub mb lb F M T ps clock lim arm false un ms hs parts t st i) : usedL ps ≤ 3200 * i := by
  have h2 := h1.small.2.2
  rw [h.nt] at h2
  have h3 := h1.bd.by_
  rcases h.k with ⟨h4, -⟩ | h4 <;> rw [h4] at h2
  · simp [szV, oldB] at h2; omega
  · simp [szV, oldB] at h2; omega
/-- Compact in the loop. -/
theorem LS.compacted (h : LS w0 W fb sb db ub mb lb F M T dw rm i) (hi : i ≤ 58) : Calls Tryz.prog 17 #[.pointer (some ⟨T, 0, none⟩)] W fun e w' => ∃ er, e = .returned (.int .i64 er) ∧
    ((dw = true ∧ er = 13 ∧ LS w0 w' fb sb db ub mb lb F M T true rm (i + 1)) ∨
     (dw = false ∧ er = 0 ∧ LS w0 w' fb sb db ub mb lb F M T false rm (i + 1)) ∨
     (dw = false ∧ er = 14 ∧ rm = false ∧ LS w0 w' fb sb db ub mb lb F M T false rm (i + 1)) ∨
     (dw = false ∧ er = 13 ∧ ∃ lim arm, w'.cell? ⟨db, 0, none⟩ = some (.bool false) ∧ w'.frozen? ⟨db, 0, none⟩ = false ∧ LS w0 (w'.setCell ⟨db, 0, none⟩ (.bool true)) fb sb db ub mb lb F M T true rm (i + 1) ∧ FB (w'.setCell ⟨db, 0, none⟩ (.bool true)) F M lim arm true)) := by
  obtain ⟨ps, clock, lim, arm, dn, un, ms, hs, parts, t, st, h1, h2, h3, h4, h5⟩ := h.ex
  cases dw
  · obtain ⟨rfl, al⟩ := h4 rfl
    obtain ⟨v, qs, hC, hq⟩ := al.cs
    obtain ⟨rfl, rfl⟩ := h1.up rfl
    have hu := al.used h1
    have hlq : qs.length = ms.length := by simpa using congrArg List.length hq
    have hml := h1.bd.ml
    have hwq : ∀ q ∈ qs, wt q ≤ 3000 := fun q hqq => by
      have e1 : q.core ∈ ms.map PV.core := hq ▸ List.mem_map_of_mem hqq
      obtain ⟨p, hp, e⟩ := List.mem_map.1 e1
      have e2 := h1.bd.mw p hp
      simp only [PV.core, Prod.mk.injEq] at e
      unfold wt at e2 ⊢
      rw [← e.1, ← e.2.1]; exact e2
    have hcut := cut_ex (by omega) hwq
    have hcl := h1.bd.cutLen (by omega) hq hcut
    refine (compact_D W T F M nAb ps clock lim arm v qs _ _ hC (by omega) hwq (by decide) nAb_full nAbTfull nAbKT al.nt (by omega)).mono ?_
    rintro e w' ⟨er, ps', c', arm', rfl, hm, (⟨rfl, -, parts', hc, hC', hl'⟩ | ⟨rfl, -, hlt, hC', hl'⟩ | ⟨rfl, -, hC', hl'⟩)⟩
    · refine ⟨0, rfl, .inr (.inl ⟨rfl, rfl, ?_⟩)⟩
      have e1 : (lk ps') nabT = none := by rw [hl', Disk.put_ne _ _ (fun e => nAbKT e.symm)]; exact al.nt
      have e2 : (lk ps') nabK = some (frs parts', (frs parts').length) := by rw [hl', Disk.put_same]; rfl
      have hD : DK (lk ps') parts' [] true := ⟨fun s g1 g2 => by rw [hl', Disk.put_ne _ _ g1]; exact h1.dk.only s g1 g2, .inr ⟨_, by rw [e2, List.append_nil], Nat.le_refl _, fun _ => by rw [List.append_nil]⟩⟩
      rw [← frs_len] at hC'
      have hp := (h1.pg h2 hC' hm).pl hD (.inl rfl) (h1.bd.cut (by omega) hq hc) (fun _ => ⟨rfl, rfl⟩) h1.hl
      exact ⟨ps', c', lim, arm', false, un, ms, hs, parts', [], true, hp, boxed_mv h2 h1.bx (by simp) hm, h3, fun _ => ⟨rfl, e1, .inr e2, v, qs, hC', hq⟩, fun e => by cases e⟩
    · have hrm : rm = false := by
        cases rm
        · rfl
        · have := h3 rfl
          omega
      refine ⟨14, rfl, .inr (.inr (.inl ⟨rfl, rfl, hrm, ?_⟩))⟩
      have hp := (h1.pg h2 hC' hm).pl (by rw [hl']; exact h1.dk) (.inl rfl) (h1.bd.mono (Nat.le_succ i)) (fun _ => ⟨rfl, rfl⟩) h1.hl
      exact ⟨ps', c', lim, arm', false, un, ms, hs, parts, [], true, hp, boxed_mv h2 h1.bx (by simp) hm, h3, fun _ => ⟨rfl, by rw [hl']; exact al.nt, by rw [hl']; exact al.k, v, qs, hC', hq⟩, fun e => by cases e⟩
    · have hg := h1.pg h2 hC' hm
      have hg2 := hg.setD true
      have e2 : (lk ps') nabK = (lk ps) nabK := hl' _ nAbKT
      have hD : DK (lk ps') parts [] true := ⟨fun s g1 g2 => by rw [hl' s g2]; exact h1.dk.only s g1 g2, by rw [e2]; exact h1.dk.k⟩
      refine ⟨13, rfl, .inr (.inr (.inr ⟨rfl, rfl, lim, arm', hg.bd.cell, hg.bd.frozen, ?_, hg2.cs.f.fb⟩))⟩
      have hp := hg2.pl hD (.inl rfl) (h1.bd.mono (Nat.le_succ i)) (fun e => by cases e) h1.hl
      exact ⟨ps', c', lim, arm', true, un, ms, hs, parts, [], true, hp, hg2.bd, h3, (fun e => by cases e), fun _ => ⟨rfl, hg2.cs.nT, _, _, _, _, hg2.cs.sb⟩⟩
  · obtain ⟨rfl, hnT, v, nx, sz, dead, hsb⟩ := h5 rfl
    refine (compact_down W T F M nAb v nx sz lim arm dead hsb h1.f.fb).mono ?_
    rintro e w' ⟨rfl, hsb', hk⟩
    have hm : Moved W T F M ps ps w' := Moved.turn hk
    refine ⟨13, rfl, .inl ⟨rfl, rfl, ?_⟩⟩
    have hp := (h1.moved hm (h1.f.kept hk fun k hm e => hnT (e ▸ hm)) h1.dk h1.tl h1.up).mono (Nat.le_succ i)
    exact ⟨ps, clock, lim, arm, true, un, ms, hs, parts, t, st, hp, boxed_mv h2 h1.bx (by simp) hm, h3, (fun e => by cases e), fun _ => ⟨rfl, hnT, v, nx, sz, true, hsb'⟩⟩
end
end Go.Proofs.YtcifhfdjigfeiaaGreatDoor
end

/-! courantlaw23.CompactPlays: Put in the loop's state. -/
section
set_option linter.unusedVariables false
set_option linter.unusedSimpArgs false
namespace Go.Proofs.YtcifhfdjigfeiaaGreatDoor
open Go.RowKit

theorem CS.far {S : Nat → Prop} {w W : World} {T F M : Nat} {nm : ByteArray} {ps : List PF} {clock : Nat} {lim arm : Int} {dn dead : Bool} {v : Value} {qs : List PV} {nx sz : Nat} (h : CS w T F M nm ps clock lim arm dn v qs nx sz dead) (hk : Kept S w W) (hT : ¬ S T) (hf : ∀ k ∈ foot F M ps, ¬ S k) (hv : ∀ k, v.ownBlock = some k → ¬ S k) (hq : ∀ q ∈ qs, ∀ k, q.val.ownBlock = some k → ¬ S k) : CS W T F M nm ps clock lim arm dn v qs nx sz dead :=
  ⟨h.f.kept hk hf, h.sb.kept hk hT, own_kept h.row hk hv, fun q hqq => own_kept (h.own q hqq) hk (hq q hqq), h.nT, h.nv, h.nq⟩
/-- Put has gone well. -/
structure LO (w0 W : World) (fb sb db ub mb lb F M T : Nat) (rm : Bool) (i : Nat) (u : List PV) : Prop where
  ex : ∃ ps clock lim arm v qs un ms hs parts, PG w0 W fb sb db ub mb lb F M T ps clock lim arm false v qs (parts.length + 1) ((frs parts).length + ((bytesP u).length + 16)) false T false un ms hs ∧ DK (lk ps) (parts ++ [u]) [] true ∧ Bd i parts ms ∧ (rm = true → lim = 1048576) ∧ hs.length ≤ 5000 ∧ lk ps nabT = none ∧ lk ps nabK = some (frs (parts ++ [u]), (frs (parts ++ [u])).length) ∧ qs.map PV.core = putC (ms.map PV.core) (u.map PV.core)
/-- The files fell in Put. -/
structure LD (w0 W : World) (fb sb db ub mb lb F M T : Nat) (rm : Bool) (i : Nat) (u : List PV) : Prop where
  ex : ∃ ps clock lim arm v qs nx sz un ms hs parts, PG w0 W fb sb db ub mb lb F M T ps clock lim arm true v qs nx sz true T false un ms hs ∧ DK (lk ps) parts (frameB parts.length (bytesP u)) false ∧ Bd i parts ms ∧ (rm = true → lim = 1048576)
/-- What Put leaves. -/
def LPut (w0 : World) (fb sb db ub mb lb F M T : Nat) (dw rm : Bool) (i : Nat) (u : List PV) (er : Int) (W : World) : Prop :=
  (dw = true ∧ er = 13 ∧ LS w0 W fb sb db ub mb lb F M T true rm i) ∨
  (dw = false ∧ er = 14 ∧ rm = false ∧ LS w0 W fb sb db ub mb lb F M T false rm i) ∨
  (dw = false ∧ er = 0 ∧ LO w0 W fb sb db ub mb lb F M T rm i u) ∨
  (dw = false ∧ er = 13 ∧ LD w0 W fb sb db ub mb lb F M T rm i u)
section
variable {w0 Wq Wp W W' : World} {fb sb db ub mb lb F M T : Nat} {dw rm : Bool} {i : Nat} {u : List PV} {v : Value}
theorem LS.low (h : LS w0 Wq fb sb db ub mb lb F M T dw rm i) (hk : Kept (fun _ => False) Wq W) : ∃ ps clock lim arm dn un ms hs parts t st, PL w0 W fb sb db ub mb lb F M T ps clock lim arm dn un ms hs parts t st i ∧ Boxed W db 4 (.bool dw) ∧ (rm = true → lim = 1048576) ∧ (dw = false → dn = false ∧ Alive W T F M ps clock lim arm parts ms) ∧ (dw = true → dn = true ∧ T ∉ foot F M ps ∧ ∃ v next size dead, SB W T F nAb v next size dead) ∧ (∀ k ∈ foot F M ps, k < Wq.heap.size) ∧ T < Wq.heap.size := by
  obtain ⟨ps, clock, lim, arm, dn, un, ms, hs, parts, t, st, h1, h2, h3, h4, h5⟩ := h.ex
  refine ⟨ps, clock, lim, arm, dn, un, ms, hs, parts, t, st, h1.stay hk, hk.heap h2 (by simp), h3, fun e => ?_, fun e => ?_, h1.f.lt, ?_⟩
  · obtain ⟨g1, g2⟩ := h4 e
    obtain ⟨v, qs, g3, g4⟩ := g2.cs
    exact ⟨g1, g2.nt, g2.k, v, qs, g3.stay hk, g4⟩
  · obtain ⟨g1, g2, v, n, s, d, g3⟩ := h5 e
    exact ⟨g1, g2, v, n, s, d, g3.kept' hk⟩
  · cases dw
    · obtain ⟨-, g2⟩ := h4 rfl
      obtain ⟨v, qs, g3, g4⟩ := g2.cs
      exact g3.tlt
    · obtain ⟨-, -, v, n, s, d, g3⟩ := h5 rfl
      exact (Array.getElem?_eq_some_iff.1 (show Wq.heap[T]? = _ from g3)).1
theorem LS.crashedB (h : LS w0 Wq fb sb db ub mb lb F M T dw rm i) (hk0 : Kept (fun _ => False) Wq W) {A : Option Addr} {n c : Nat} (hks : ∀ j, j < n → ∃ ad z, A = some ad ∧ w0.cell? (ad.add j) = some (.int .i64 z)) : Calls Tryz.prog 10 #[.pointer (some ⟨F, 0, none⟩), .slice A n c] W fun e w' => e = .returned (.tuple #[]) ∧ LC w0 w' fb sb db ub mb lb F M rm i ∧ Kept (fun k => k < Wq.heap.size) W w' := by
  obtain ⟨ps, clock, lim, arm, dn, un, ms, hs, parts, t, st, h1, h2, h3, -, -, hF, -⟩ := h.low hk0
  have hsm := h1.small
  refine (crash_any W F M ps clock lim arm dn A n c h1.f hsm.1 hsm.2.1 (Lib.hid fun j hj => ?_)).mono ?_
  · obtain ⟨ad, z, e, hc⟩ := hks j hj
    refine ⟨ad, z, e, fun hm => ?_, h1.kept.cell hc (by simp)⟩
    have h4 := World.block_lt_of_cell? w0 _ hc
    rw [add_block] at h4
    have := h1.nf _ hm
    omega
  · rintro e w' ⟨he, qs, hw, ha⟩
    obtain ⟨k, hk⟩ := h1.dk.fell ha.fell
    have hm : Moved W T F M ps qs w' := Moved.went hw
    exact ⟨he, ⟨T, dw, qs, clock, lim, arm, true, un, ms, hs, parts, _, true, h1.moved hm hw.at_ hk (h1.tl.take k) (fun e => by cases e), boxed_mv h2 h1.bx (by simp) hm, h3⟩, hw.kept.mono fun k _ e => hF k e⟩
theorem LS.put (h : LS w0 Wq fb sb db ub mb lb F M T dw rm i) (hk0 : Kept (fun _ => False) Wq Wp) (hi : i ≤ 58) (ho : OwnP Wp W v u) (hf : fewP u = true) :
    ∃ A c, v = .slice A u.length c ∧ (A = none → c = 0) ∧ Calls Tryz.prog 21 #[.pointer (some ⟨T, 0, none⟩), .slice A u.length c] W fun e w' => ∃ er, e = .returned (.int .i64 er) ∧ Kept (fun k => k < Wq.heap.size) W w' ∧ ∀ W', Kept (fun k => Wp.heap.size ≤ k ∧ k < W.heap.size) w' W' → LPut w0 fb sb db ub mb lb F M T dw rm i u er W' := by
  obtain ⟨ps, clock, lim, arm, dn, un, ms, hs, parts, t, st, h1, h2, h3, h4, h5, hF, hTq⟩ := h.low hk0
  have hbs := h1.bs
  cases dw
  · obtain ⟨rfl, al⟩ := h4 rfl
    obtain ⟨v0, qs, hC, hq⟩ := al.cs
    obtain ⟨rfl, rfl⟩ := h1.up rfl
    have hu := al.used h1
    have hlq : qs.length = ms.length := by simpa using congrArg List.length hq
    have hml := h1.bd.ml
    obtain ⟨s1, s2, s3⟩ := few_small hf
    have hTl := hC.tlt
    obtain ⟨A, c, rfl, hA, hp⟩ := ho.psF hTl h1.f.lt
    have hsz := ho.kept.size
    refine ⟨A, c, rfl, hA, ?_⟩
    have hfl := h1.bd.by_
    have hpl := h1.bd.pl
    refine (put_D2 W T F M nAb ps clock lim arm v0 qs _ _ A u.length c u (hC.stay ho.kept) rfl hp (by omega) (fun q hqq => ?_) (fun q hqq => ?_) (by omega) (by omega) (by omega) (by omega) (by decide) nAb_full).mono ?_
    · have e1 : q.core ∈ ms.map PV.core := hq ▸ List.mem_map_of_mem hqq
      obtain ⟨p, hp, e⟩ := List.mem_map.1 e1
      have e2 := h1.bd.mw p hp
      simp only [PV.core, Prod.mk.injEq] at e
      unfold wt at e2
      rw [← e.2.1]; omega
    · have := s2 q hqq
      unfold wt at this
      omega
    · have kept_ : ∀ {ps' : List PF} {w' : World}, Moved W T F M ps ps' w' → Kept (fun k => k < Wq.heap.size) W w' := fun hm => hm.kept.mono fun k _ e => by
        rcases e with e | e
        · omega
        · exact hF k e
      have mv_ : ∀ {ps' : List PF} {w' W' : World}, Moved W T F M ps ps' w' → Kept (fun k => Wp.heap.size ≤ k ∧ k < W.heap.size) w' W' → Moved Wp T F M ps ps' W' := fun hm hk => by
        refine ⟨((ho.kept.mono fun _ _ e => e.elim).trans hm.kept fun k _ e => e).trans hk fun k hk2 e => by omega, fun k hk2 => ?_⟩
        rcases hm.feet k hk2 with e | e
        · exact .inl e
        · exact .inr (by omega)
      have foot_ : ∀ {ps' : List PF} {w' : World}, Moved W T F M ps ps' w' → ∀ k ∈ foot F M ps', ¬ (Wp.heap.size ≤ k ∧ k < W.heap.size) := fun hm k hk e => by
        rcases hm.feet k hk with e2 | e2
        · have := h1.f.lt k e2; omega
        · omega
      have old_ : ∀ k, v0.ownBlock = some k → ¬ (Wp.heap.size ≤ k ∧ k < W.heap.size) := fun k e e2 => by have := own_lt' hC.row k e; omega
      have olds_ : ∀ q ∈ qs, ∀ k, q.val.ownBlock = some k → ¬ (Wp.heap.size ≤ k ∧ k < W.heap.size) := fun q hqq k e e2 => by have := own_lt' (hC.own q hqq) k e; omega
      rintro e w' ⟨er, rfl, (⟨rfl, ps', c', v', qs', hC', hm, hl', hq', hn1, hn2⟩ | ⟨rfl, hlt, hC', hm⟩ | ⟨rfl, -, ps', c', arm', hC', hm, hl'⟩)⟩
      · refine ⟨0, rfl, kept_ hm, fun W' hW' => .inr (.inr (.inl ⟨rfl, rfl, ?_⟩))⟩
        have hCW := hC'.far hW' (by omega) (foot_ hm) (fun k e e2 => by have := hn1 k e; omega) (fun q hqq k e e2 => by have := hn2 q hqq k e; omega)
        have e0 : (oldB (lk ps nabK)).1 = frs parts := by
          rcases al.k with ⟨h6, rfl⟩ | h6 <;> rw [h6] <;> rfl
        have e2 : (lk ps') nabK = some (frs (parts ++ [u]), (frs (parts ++ [u])).length) := by rw [hl', Disk.put_same, e0, frs_snoc]
        have hD : DK (lk ps') (parts ++ [u]) [] true := ⟨fun s g1 g2 => by rw [hl', Disk.put_ne _ _ g1]; exact h1.dk.only s g1 g2, .inr ⟨_, by rw [e2, List.append_nil], Nat.le_refl _, fun _ => by rw [List.append_nil]⟩⟩
        exact ⟨ps', c', lim, _, v', qs', un, ms, hs, parts, h1.pg h2 hCW (mv_ hm hW'), hD, h1.bd, h3, h1.hl, by rw [hl', Disk.put_ne _ _ (fun e => nAbKT e.symm)]; exact al.nt, e2, by rw [hq', hq]⟩
      · refine ⟨14, rfl, kept_ hm, fun W' hW' => .inr (.inl ⟨rfl, rfl, ?_, ?_⟩)⟩
        · cases rm
          · rfl
          · have := h3 rfl
            omega
        · have hCW := hC'.far hW' (by omega) (foot_ hm) old_ olds_
          have hm' := mv_ hm hW'
          have hp := (h1.pg h2 hCW hm').pl h1.dk (.inl rfl) h1.bd (fun _ => ⟨rfl, rfl⟩) h1.hl
          exact ⟨ps, clock, lim, arm, false, un, ms, hs, parts, [], true, hp, boxed_mv h2 h1.bx (by simp) hm', h3, fun _ => ⟨rfl, al.nt, al.k, v0, qs, hCW, hq⟩, fun e => by cases e⟩
      · refine ⟨13, rfl, kept_ hm, fun W' hW' => .inr (.inr (.inr ⟨rfl, rfl, ?_⟩))⟩
        have hCW := hC'.far hW' (by omega) (foot_ hm) old_ olds_
        have hD : DK (lk ps') parts (frameB parts.length (bytesP u)) false := by
          refine ⟨fun s g1 g2 => by rw [hl', Disk.put_ne _ _ g1]; exact h1.dk.only s g1 g2, .inr ⟨(oldB (lk ps nabK)).2, ?_, ?_, fun e => by cases e⟩⟩
          · have e0 : (oldB (lk ps nabK)).1 = frs parts := by
              rcases al.k with ⟨h6, rfl⟩ | h6 <;> rw [h6] <;> rfl
            rw [hl', Disk.put_same, e0]
          · rcases al.k with ⟨h6, rfl⟩ | h6 <;> rw [h6]
            · simp [frs, frsL]
            · exact Nat.le_refl _
        exact ⟨ps', c', lim, arm', v0, qs, _, _, un, ms, hs, parts, h1.pg h2 hCW (mv_ hm hW'), hD, h1.bd, h3⟩
  · obtain ⟨rfl, hnT, v0, nx, sz, dead, hsb⟩ := h5 rfl
    have hTl : T < Wp.heap.size := (Array.getElem?_eq_some_iff.1 (show Wp.heap[T]? = _ from hsb)).1
    obtain ⟨A, c, rfl, hA, hp⟩ := ho.psF hTl h1.f.lt
    have hsz := ho.kept.size
    refine ⟨A, c, rfl, hA, (put_down W T F M nAb v0 nx sz lim arm dead (.slice A u.length c) (hsb.kept' ho.kept) (h1.f.kept ho.kept (by simp)).fb).mono ?_⟩
    rintro e w' ⟨rfl, hsb', hk⟩
    refine ⟨13, rfl, hk.mono fun k _ e => by omega, fun W' hW' => .inl ⟨rfl, rfl, ?_⟩⟩
    have hm : Moved Wp T F M ps ps W' := ⟨((ho.kept.mono fun _ _ e => e.elim).trans hk fun k _ e => .inl e).trans hW' fun k hk2 e => by omega, fun k hk => .inl hk⟩
    have hkW : Kept (fun k => k = T ∨ Wp.heap.size ≤ k) Wp W' := ((ho.kept.mono fun _ _ e => e.elim).trans hk fun k _ e => .inl e).trans hW' fun k _ e => .inr e.1
    have hp := h1.moved hm (h1.f.kept hkW fun k hk e => by
      rcases e with e | e
      · exact hnT (e ▸ hk)
      · have := h1.f.lt k hk; omega) h1.dk h1.tl h1.up
    exact ⟨ps, clock, lim, arm, true, un, ms, hs, parts, t, st, hp, boxed_mv h2 h1.bx (by simp) hm, h3, fun e => (by cases e), fun _ => ⟨rfl, hnT, v0, nx, sz, true, hsb'.kept hW' (by omega)⟩⟩
end
end Go.Proofs.YtcifhfdjigfeiaaGreatDoor
end

/-! courantlaw23.CompactPlays: what the loop does behind Put; its check; open. -/
section
set_option linter.unusedVariables false
set_option linter.unusedSimpArgs false
namespace Go.Proofs.YtcifhfdjigfeiaaGreatDoor
open Go.RowKit

theorem bd_b {i : Nat} {parts : List (List PV)} {ms : List PV} (h : Bd i parts ms) : ∀ p ∈ ms, p.b.length ≤ 1000000000 := fun p hp => by
  have := h.mw p hp
  unfold wt at this; omega
section
variable {w0 W W2 : World} {fb sb db ub mb lb F M T : Nat} {dw rm : Bool} {i : Nat} {u : List PV}
theorem LO.done (h : LO w0 W fb sb db ub mb lb F M T rm i u) (hi : i ≤ 58) (hf : fewP u = true) :
    ∃ A c ms, W.cell? ⟨lb, 0, none⟩ = some (.slice A ms.length c) ∧ PsAt W A ms ∧ ms.length ≤ 3000 ∧ (∀ p ∈ ms, p.b.length ≤ 1000000000) ∧ W.cell? ⟨db, 0, none⟩ = some (.bool false) ∧
      ∀ W2 v2 hs2, OwnP W W2 v2 hs2 → hs2.map PV.core = putC (ms.map PV.core) (u.map PV.core) → (∃ x, W2.cell? ⟨lb, 0, none⟩ = some x) ∧ W2.frozen? ⟨lb, 0, none⟩ = false ∧ LS w0 (W2.setCell ⟨lb, 0, none⟩ v2) fb sb db ub mb lb F M T false rm (i + 1) := by
  obtain ⟨ps, clock, lim, arm, v, qs, un, ms, hs, parts, hg, hd, hb, hr, hl, hnt, hk, hq⟩ := h.ex
  obtain ⟨A, c, g1, g2⟩ := hg.bl
  refine ⟨A, c, ms, g1.cell, g2.here, by have := hb.ml; omega, bd_b hb, hg.bd.cell, fun W2 v2 hs2 ho hc => ?_⟩
  obtain ⟨A2, c2, rfl, -, hz⟩ := ho.psZ hg.cs.tlt hg.cs.f.lt fun b hb => (hg.bx b hb).2.2
  have hg2 := hg.stay ho.kept
  obtain ⟨A', c', g3, -⟩ := hg2.bl
  have hg3 := hg2.setL (c := c2) hs2 hz
  refine ⟨⟨_, g3.cell⟩, g3.frozen, ?_⟩
  have hb2 := hb.put hf hc
  have hp := hg3.pl hd (.inl rfl) hb2 (fun _ => ⟨rfl, rfl⟩) hl
  have hC := hg3.cs
  have e1 : (parts ++ [u]).length = parts.length + 1 := by simp
  have e2 : (frs (parts ++ [u])).length = (frs parts).length + ((bytesP u).length + 16) := by rw [frs_snoc, List.length_append, frameB_len]
  rw [← e1, ← e2] at hC
  exact ⟨ps, clock, lim, arm, false, un, hs2, hs, parts ++ [u], [], true, hp, hg3.bd, hr, fun _ => ⟨rfl, hnt, .inr hk, v, qs, hC, hq.trans hc.symm⟩, fun e => (by cases e)⟩
theorem LD.done (h : LD w0 W fb sb db ub mb lb F M T rm i u) (hi : i ≤ 58) (hf : fewP u = true) :
    ∃ A c ms, W.cell? ⟨lb, 0, none⟩ = some (.slice A ms.length c) ∧ PsAt W A ms ∧ ms.length ≤ 3000 ∧ (∀ p ∈ ms, p.b.length ≤ 1000000000) ∧ W.cell? ⟨db, 0, none⟩ = some (.bool false) ∧
      ∀ W2 v2 hs2, OwnP W W2 v2 hs2 → hs2.map PV.core = putC (ms.map PV.core) (u.map PV.core) →
        ∀ W3 W4 W5, W3 = W2.setCell ⟨db, 0, none⟩ (.bool true) → W4 = W3.setCell ⟨ub, 0, none⟩ (.bool true) → W5 = W4.setCell ⟨mb, 0, none⟩ v2 →
        (∃ x, W2.cell? ⟨db, 0, none⟩ = some x) ∧ W2.frozen? ⟨db, 0, none⟩ = false ∧ (∃ x, W3.cell? ⟨ub, 0, none⟩ = some x) ∧ W3.frozen? ⟨ub, 0, none⟩ = false ∧ (∃ x, W4.cell? ⟨mb, 0, none⟩ = some x) ∧ W4.frozen? ⟨mb, 0, none⟩ = false ∧
        LS w0 W5 fb sb db ub mb lb F M T true rm (i + 1) ∧ ∃ lim arm, FB W5 F M lim arm true := by
  obtain ⟨ps, clock, lim, arm, v, qs, nx, sz, un, ms, hs, parts, hg, hd, hb, hr⟩ := h.ex
  obtain ⟨A, c, g1, g2⟩ := hg.bl
  refine ⟨A, c, ms, g1.cell, g2.here, by have := hb.ml; omega, bd_b hb, hg.bd.cell, fun W2 v2 hs2 ho hc W3 W4 W5 e3 e4 e5 => ?_⟩
  obtain ⟨A2, c2, rfl, -, hz⟩ := ho.psZ hg.cs.tlt hg.cs.f.lt fun b hb => (hg.bx b hb).2.2
  subst e3 e4 e5
  have hg2 := hg.stay ho.kept
  have o3 := hg2.off (by simp) hg2.bd (by decide) (by decide) (.bool true)
  have hg3 := hg2.setD true
  have hz3 := hz.mv o3.2.1
  have o4 := hg3.off (by simp) hg3.bu (by decide) (by decide) (.bool true)
  have hg4 := hg3.setU true
  have hz4 := hz3.mv o4.2.1
  obtain ⟨A', c', g3, -⟩ := hg4.bm
  have hg5 := hg4.setM (c := c2) hs2 hz4
  have hb2 := hb.put hf hc
  have hml := hb2.ml
  refine ⟨⟨_, hg2.bd.cell⟩, hg2.bd.frozen, ⟨_, hg3.bu.cell⟩, hg3.bu.frozen, ⟨_, g3.cell⟩, g3.frozen, ?_, lim, arm, hg5.cs.f.fb⟩
  have hp := hg5.pl hd (.inr ⟨u, (frameB parts.length (bytesP u)).length, rfl, (List.take_length).symm, hb2⟩) (hb.mono (Nat.le_succ i)) (fun e => by cases e) (by omega)
  exact ⟨ps, clock, lim, arm, true, true, ms, hs2, parts, _, false, hp, hg5.bd, hr, fun e => (by cases e), fun _ => ⟨rfl, hg5.cs.nT, v, nx, sz, true, hg5.cs.sb⟩⟩
/-- The check at a round's end. -/
theorem LS.check (h : LS w0 W fb sb db ub mb lb F M T false rm i) (hi : i ≤ 60) : ∃ A c n, W.cell? ⟨lb, 0, none⟩ = some (.slice A n c) ∧
    ∀ W1, Kept (fun _ => False) W W1 → W1.cell? ⟨lb, 0, none⟩ = some (.slice A n c) ∧ Calls Tryz.prog 12 #[.pointer (some ⟨T, 0, none⟩)] W1 fun e w' => ∃ V, e = .returned V ∧ Kept (fun _ => False) W1 w' ∧ ∀ W2, Kept (fun _ => False) w' W2 → Calls Tryz.prog 11 #[V, .slice A n c] W2 fun e w2 => e = .returned (.bool true) ∧ Kept (fun _ => False) W1 w2 := by
  obtain ⟨ps, clock, lim, arm, dn, un, ms, hs, parts, t, st, h1, h2, h3, h4, h5⟩ := h.ex
  obtain ⟨rfl, al⟩ := h4 rfl
  obtain ⟨v, qs, hC, hq⟩ := al.cs
  obtain ⟨A, c, g1, g2⟩ := h1.bl
  refine ⟨A, c, ms.length, g1.cell, fun W1 hW => ⟨Boxed.cell (hW.heap g1 (by simp)), ?_⟩⟩
  have := (hC.stay hW).allEq (c := c) hq h1.bd hi (g2.here.kept hW)
  simpa only [decide_true] using this
end
end Go.Proofs.YtcifhfdjigfeiaaGreatDoor
end

/-! courantlaw23.CompactPlays: open in the loop's state. -/
section
set_option linter.unusedVariables false
set_option linter.unusedSimpArgs false
namespace Go.Proofs.YtcifhfdjigfeiaaGreatDoor
open Go.RowKit

theorem LC.opened {w0 W : World} {fb sb db ub mb lb F M : Nat} {rm : Bool} {i : Nat} (h : LC w0 W fb sb db ub mb lb F M rm i) (hi : i ≤ 60) (an : Int) (han : an ≤ 9223372036854775807) {A3 : Option Addr} {n3 c3 : Nat} (hks : ∀ j, j < n3 → ∃ ad z, A3 = some ad ∧ w0.cell? (ad.add j) = some (.int .i64 z)) :
    Calls Tryz.prog 7 #[.int .i64 an, .slice A3 n3 c3, .pointer (some ⟨fb, 0, none⟩), .pointer (some ⟨sb, 0, none⟩), .pointer (some ⟨db, 0, none⟩), .pointer (some ⟨ub, 0, none⟩), .pointer (some ⟨mb, 0, none⟩), .pointer (some ⟨lb, 0, none⟩)] W fun e w' => e = .returned (.bool true) ∧ ∃ T', LS w0 w' fb sb db ub mb lb F M T' false rm i := by
  obtain ⟨T, dw, ps, clock, lim, arm, dn, un, ms, hs, parts, t, st, h1, h2, h3⟩ := h.ex
  refine (plays_open w0 W fb sb db ub mb lb F M T ps clock lim arm dn un dw ms hs parts t st i an A3 n3 c3 h1 h2 hi han hks).mono ?_
  rintro e w' ⟨rfl, T', ps', c', arm', ms', parts', g1, g2, g3⟩
  exact ⟨rfl, T', ps', c', lim, arm', false, false, ms', hs, parts', [], true, g1, g3, h3, fun _ => ⟨rfl, g2⟩, fun e => by cases e⟩
end Go.Proofs.YtcifhfdjigfeiaaGreatDoor
end

/-! courantlaw23.CompactPlays: spoiling of copies. -/
section
set_option linter.unusedVariables false
set_option linter.unusedSimpArgs false
namespace Go.Proofs.YtcifhfdjigfeiaaGreatDoor
open Go.RowKit

theorem Raw.setAny {w : World} {B g m : Nat} (h : Raw w g m) (j : Nat) (z : Int) : Raw (w.setCell ⟨B, j, none⟩ (.int .u8 z)) g m := by
  by_cases hb : B = g
  · subst hb; exact h.set j z
  · obtain ⟨cur, h1, h2, h3⟩ := h
    refine ⟨cur, ?_, h2, h3⟩
    simp only [World.setCell, Array.getElem?_modify, if_neg hb, h1]
set_option maxRecDepth 100000 in
set_option maxHeartbeats 2000000 in
theorem spoil_raw (w : World) (B n c : Nat) (hn : n ≤ 1000000000) (h : Raw w B n) :
    Calls Tryz.prog 22 #[.slice (some ⟨B, 0, none⟩) n c] w fun e w' => e = .returned (.tuple #[]) ∧ Kept (fun k => k = B) w w' ∧ (∀ g m, Raw w g m → Raw w' g m) := by
  have H := Lib.hid h
  clear h
  have hn9 : (n : Int) ≤ 1000000000 := by omega
  go_enter Tryz.func22, Tryz.ntmps22
  go_wp2_with fail
  go_loopw [2] (fun i wr => ∃ k : Nat, k ≤ n ∧ i = .int .i64 k ∧ Hid (∀ g m, Raw w g m → Raw wr g m) ∧ Hid (Kept (fun k => k = B) w wr)) (fun i _ => n - (intOf i).toNat)
  case atStart => exact ⟨0, by omega, rfl, Lib.hid fun g m h => h, Lib.hid (Kept.refl _ _)⟩
  case round =>
    obtain ⟨k, hk, rfl, hR, hK⟩ := hrel
    by_cases hlt : k < n
    · have hk9 : (k : Int) < (n : Int) := by omega
      obtain ⟨z, hc⟩ := (hR.out B n H.out).cell k hlt
      have hf := (hR.out B n H.out).frozen k
      go_wp2
      go_roundw
      case rel => exact ⟨k + 1, by omega, by go_num, Lib.hid fun g m h => (hR.out g m h).setAny k _, Lib.hid (hK.out.trans' (kF wr B k _))⟩
      case measure => simp [intOf]; omega
    · obtain rfl : k = n := by omega
      go_wp2
      go_end0
      exact ⟨rfl, hK.out, hR.out⟩

theorem fewP_core {ps qs : List PV} (h : ps.map PV.core = qs.map PV.core) : fewP ps = fewP qs := by
  have hl : ps.length = qs.length := by simpa using congrArg List.length h
  have e : ∀ l : List PV, l.map wt = (l.map PV.core).map wtC := fun l => by rw [List.map_map]; rfl
  have e2 : (ps.take 50).map wt = (qs.take 50).map wt := by rw [List.map_take, List.map_take, e, e, h]
  unfold fewP fewN
  rw [hl, e2]
theorem LPut.kw {w0 W : World} {fb sb db ub mb lb F M T : Nat} {dw rm : Bool} {i : Nat} {u : List PV} {er : Int} (h : LPut w0 fb sb db ub mb lb F M T dw rm i u er W) : Kept (fun _ => False) w0 W := by
  rcases h with ⟨-, -, h⟩ | ⟨-, -, -, h⟩ | ⟨-, -, h⟩ | ⟨-, -, h⟩
  · obtain ⟨ps, clock, lim, arm, dn, un, ms, hs, parts, t, st, h1, -⟩ := h.ex
    exact h1.kept
  · obtain ⟨ps, clock, lim, arm, dn, un, ms, hs, parts, t, st, h1, -⟩ := h.ex
    exact h1.kept
  · obtain ⟨ps, clock, lim, arm, v, qs, un, ms, hs, parts, hg, -⟩ := h.ex
    exact hg.kept
  · obtain ⟨ps, clock, lim, arm, v, qs, nx, sz, un, ms, hs, parts, hg, -⟩ := h.ex
    exact hg.kept
/-- Copies, while they are spoilt. -/
structure SpI (a b : Nat) (W : World) (A : Option Addr) (u : List PV) : Prop where
  cell : ∀ (k : Nat) q, u[k]? = some q → ∃ ad, A = some ad ∧ W.cell? ⟨(ad.add (k * 3)).block, (ad.add (k * 3)).off + 1, none⟩ = some q.val ∧ ∃ cur, W.heap[ad.block]? = some (.cells cur 53 (0, 0))
  raw : ∀ q ∈ u, (q.val = .slice none 0 0) ∨ ∃ g c, q.val = .slice (some ⟨g, 0, none⟩) q.b.length c ∧ Raw W g q.b.length ∧ a ≤ g ∧ g < b
theorem SpI.of {w W W' : World} {v : Value} {u : List PV} {S : Nat → Prop} (ho : OwnP w W v u) (hk : Kept S W W') (hS : ∀ k, S k → k < w.heap.size) : ∃ A c, v = .slice A u.length c ∧ PsAt W' A u ∧ SpI w.heap.size W.heap.size W' A u := by
  have hr := own_kept ho.row hk fun k e e2 => by have := own_ge ho.row k e; have := hS k e2; omega
  have hq : ∀ q ∈ u, W'.ownsRow w.heap.size 5 1 q.val q.b.length (q.b.map bv) := fun q hq => own_kept (ho.own q hq) hk fun k e e2 => by have := own_ge (ho.own q hq) k e; have := hS k e2; omega
  obtain ⟨A, c, h1, -, -, -, h4, h5⟩ := row_form hr fun q hqq => PV.ok_own (hq q hqq)
  refine ⟨A, c, h1, h4, fun k q hkq => ?_, fun q hqq => ?_⟩
  · obtain ⟨ad, e, hc, -⟩ := h4 k q hkq
    obtain ⟨G, e2, -, -, cur, hh, -⟩ := h5 ad e
    exact ⟨ad, e, hc.c1, cur, by rw [e2]; exact hh⟩
  · have h1 := hq q hqq
    have hlt := own_lt' (ho.own q hqq)
    have hge := own_ge (ho.own q hqq)
    rcases h1.2 with ⟨h2, h3⟩ | ⟨g, cap, cur, h2, h3⟩
    · exact .inl h2
    · refine .inr ⟨g, cap, h2, Raw.of_own (by rw [h2] at h1; exact h1), hge g (by rw [h2]; rfl), hlt g (by rw [h2]; rfl)⟩
theorem SpI.spoil {a b : Nat} {W : World} {A : Option Addr} {u : List PV} (h : SpI a b W A u) {q : PV} (hq : q ∈ u) (hl : q.b.length ≤ 1000000000) :
    Calls Tryz.prog 22 #[q.val] W fun e w' => e = .returned (.tuple #[]) ∧ SpI a b w' A u ∧ Kept (fun k => a ≤ k ∧ k < b) W w' := by
  rcases h.raw q hq with h1 | ⟨g, c, h1, h2, h3, h4⟩
  · rw [h1]
    exact (spoil_none W none 0).mono fun e w' ⟨he, hw⟩ => ⟨he, by rw [hw]; exact h, by rw [hw]; exact Kept.refl _ _⟩
  · rw [h1]
    refine (spoil_raw W g q.b.length c hl h2).mono ?_
    rintro e w' ⟨he, hk, hr⟩
    refine ⟨he, ⟨fun k r hr2 => ?_, fun r hr2 => ?_⟩, hk.mono fun k _ e => by subst e; exact ⟨h3, h4⟩⟩
    · obtain ⟨ad, e1, e2, cur, e3⟩ := h.cell k r hr2
      have hne : ad.block ≠ g := fun e4 => by
        obtain ⟨cur2, h5, -⟩ := h2
        rw [e4, h5] at e3
        simp at e3
      refine ⟨ad, e1, hk.cell e2 (by rw [add_block]; exact hne), cur, ?_⟩
      rw [hk.block ad.block (Array.getElem?_eq_some_iff.1 e3).1 hne]
      exact e3
    · rcases h.raw r hr2 with h5 | ⟨g', c', h5, h6, h7⟩
      · exact .inl h5
      · exact .inr ⟨g', c', h5, hr _ _ h6, h7⟩
theorem SpI.stay {a b : Nat} {W W' : World} {A : Option Addr} {u : List PV} (h : SpI a b W A u) (hk : Kept (fun _ => False) W W') : SpI a b W' A u := by
  refine ⟨fun k q hq => ?_, fun q hq => ?_⟩
  · obtain ⟨ad, e1, e2, cur, e3⟩ := h.cell k q hq
    exact ⟨ad, e1, hk.cell e2 (by simp), cur, hk.heap e3 (by simp)⟩
  · rcases h.raw q hq with h1 | ⟨g, c, h1, ⟨cur, h2, h3⟩, h4⟩
    · exact .inl h1
    · exact .inr ⟨g, c, h1, ⟨cur, hk.heap h2 (by simp), h3⟩, h4⟩
/-- The list's box. -/
theorem LS.lbc {w0 W : World} {fb sb db ub mb lb F M T : Nat} {dw rm : Bool} {i : Nat} (h : LS w0 W fb sb db ub mb lb F M T dw rm i) : ∃ A c n, W.cell? ⟨lb, 0, none⟩ = some (.slice A n c) ∧ ∀ W', Kept (fun _ => False) W W' → W'.cell? ⟨lb, 0, none⟩ = some (.slice A n c) := by
  obtain ⟨ps, clock, lim, arm, dn, un, ms, hs, parts, t, st, h1, -⟩ := h.ex
  obtain ⟨A, c, g1, -⟩ := h1.bl
  exact ⟨A, c, _, g1.cell, fun W' hW => Boxed.cell (hW.heap g1 (by simp))⟩
end Go.Proofs.YtcifhfdjigfeiaaGreatDoor
end
