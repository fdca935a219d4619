import Derived.Test.YtefpigakhhfcaaaDoorMbh
import Derived.Test.YtefpigakhhfcaaaDoorMba
import Derived.Deep.RegionHeld3
import Derived.Test.YtefpigakhhfcaaaDoorMbb
/-! A log on its files: what is held; Sync. -/
section
set_option linter.unusedVariables false
set_option linter.unusedSimpArgs false
namespace Go.Proofs.YtefpigakhhfcaaaDoor
open Go.RowKit

/-- A log on files. -/
structure LG (w : World) (T F M : Nat) (nm : ByteArray) (ps : List PF) (clock : Nat) (lim arm : Int) (dn : Bool) (v : Value) (ms : List PM) (dead : Bool) : Prop where
  f : FilesAt w F M ps clock lim arm dn
  lb : LB w T F nm v dead
  row : RowM w v ms
  rr : ∀ p ∈ ms, w.ownsRow 0 31 1 p.rv p.rs.length (p.rs.map BV.val)
  own : ∀ p ∈ ms, ∀ r ∈ p.rs, w.ownsRow 0 5 1 r.val r.b.length (r.b.map bv)
  nT : T ∉ foot F M ps
  nv : ∀ k, v.ownBlock = some k → k ∉ foot F M ps
  nr : ∀ p ∈ ms, ∀ k, p.rv.ownBlock = some k → k ∉ foot F M ps
  nq : ∀ p ∈ ms, ∀ r ∈ p.rs, ∀ k, r.val.ownBlock = some k → k ∉ foot F M ps
  dj : ms.Pairwise fun p q => ∀ k, p.rv.ownBlock = some k → q.rv.ownBlock ≠ some k
/-- What a log's calls may turn. -/
def LFoot (T F M : Nat) (ps : List PF) (v : Value) (ms : List PM) (k : Nat) : Prop := k = T ∨ k ∈ foot F M ps ∨ v.ownBlock = some k ∨ ∃ p ∈ ms, p.rv.ownBlock = some k
structure MvL (w : World) (T F M : Nat) (ps : List PF) (v : Value) (ms : List PM) (ps' : List PF) (v' : Value) (ms' : List PM) (w' : World) : Prop where
  kept : Kept (LFoot T F M ps v ms) w w'
  feet : ∀ k, LFoot T F M ps' v' ms' k → LFoot T F M ps v ms k ∨ w.heap.size ≤ k
theorem LB.noRow {w : World} {T F : Nat} {nm : ByteArray} {v : Value} {dead : Bool} (h : LB w T F nm v dead) {base e size n : Nat} {u : Value} {xs : List Value} (ho : w.ownsRow base e size u n xs) (he : e ≠ 61) : u.ownBlock ≠ some T := fun e2 => by
  rcases ho.2 with ⟨hv, _⟩ | ⟨g, _, _, hv, _, hh, _⟩
  · rw [hv] at e2; cases e2
  · rw [hv] at e2
    have hg : g = T := by simpa [Value.ownBlock] using e2
    subst hg
    rw [show w.heap[g]? = _ from h] at hh
    simp only [Option.some.injEq, Obj.cells.injEq] at hh
    exact he hh.2.1.symm
theorem own_ltH {w : World} {base e size n : Nat} {v : Value} {xs : List Value} (h : w.ownsRow base e size v n xs) : ∀ k, v.ownBlock = some k → k < w.heap.size := fun k e => by
  rcases h.2 with ⟨hv, _⟩ | ⟨g, _, _, hv, _, hh, _⟩
  · rw [hv] at e; cases e
  · rw [hv] at e
    have hg : g = k := by simpa [Value.ownBlock] using e
    subst hg
    exact (Array.getElem?_eq_some_iff.1 hh).1
section
variable {w w' w2 : World} {T F M : Nat} {nm : ByteArray} {ps ps' ps2 : List PF} {clock clock' : Nat} {lim lim' arm arm' : Int} {dn dn' : Bool} {v v' v2 : Value} {ms ms' ms2 : List PM} {dead dead' : Bool}
theorem MvL.refl : MvL w T F M ps v ms ps v ms w := ⟨Kept.refl _ _, fun k h => .inl h⟩
theorem MvL.trans (h : MvL w T F M ps v ms ps' v' ms' w') (k : MvL w' T F M ps' v' ms' ps2 v2 ms2 w2) : MvL w T F M ps v ms ps2 v2 ms2 w2 :=
  ⟨h.kept.trans k.kept fun i hi e => (h.feet i e).elim id fun e2 => by omega, fun i e => (k.feet i e).elim (h.feet i) fun e2 => .inr (Nat.le_trans h.kept.size e2)⟩
theorem MvL.stay (hk : Kept (fun _ => False) w w') : MvL w T F M ps v ms ps v ms w' := ⟨hk.mono fun _ _ e => e.elim, fun k e => .inl e⟩
theorem MvL.went (h : Went w F M ps ps' clock lim arm dn w') : MvL w T F M ps v ms ps' v ms w' :=
  ⟨h.kept.mono fun _ _ e => .inr (.inl e), fun k e => by
    rcases e with e | e | e
    · exact .inl (.inl e)
    · exact (h.feet k e).imp (fun e => .inr (.inl e)) id
    · exact .inl (.inr (.inr e))⟩
theorem MvL.turn (hk : Kept (fun k => k = T) w w') : MvL w T F M ps v ms ps v ms w' := ⟨hk.mono fun _ _ e => .inl e, fun k e => .inl e⟩
theorem LG.stay (h : LG w T F M nm ps clock lim arm dn v ms dead) (hk : Kept (fun _ => False) w w') : LG w' T F M nm ps clock lim arm dn v ms dead :=
  ⟨h.f.kept hk (by simp), h.lb.kept hk (by simp), h.row.kept hk (by simp), fun p hp => own_kept (h.rr p hp) hk (by simp), fun p hp r hr => own_kept (h.own p hp r hr) hk (by simp), h.nT, h.nv, h.nr, h.nq, h.dj⟩
theorem LG.went (h : LG w T F M nm ps clock lim arm dn v ms dead) (g : Went w F M ps ps' clock' lim' arm' dn' w') : LG w' T F M nm ps' clock' lim' arm' dn' v ms dead :=
  ⟨g.at_, h.lb.kept g.kept h.nT, h.row.kept g.kept fun k e e2 => h.nv k e e2, fun p hp => own_kept (h.rr p hp) g.kept fun k e e2 => h.nr p hp k e e2, fun p hp r hr => own_kept (h.own p hp r hr) g.kept fun k e e2 => h.nq p hp r hr k e e2,
   fun hm => (g.feet T hm).elim h.nT fun h2 => by have := h.lb.lt; omega,
   fun k e hm => (g.feet k hm).elim (h.nv k e) fun h2 => by have := own_ltH h.row k e; omega,
   fun p hp k e hm => (g.feet k hm).elim (h.nr p hp k e) fun h2 => by have := own_ltH (h.rr p hp) k e; omega,
   fun p hp r hr k e hm => (g.feet k hm).elim (h.nq p hp r hr k e) fun h2 => by have := own_ltH (h.own p hp r hr) k e; omega, h.dj⟩
theorem LG.turn (h : LG w T F M nm ps clock lim arm dn v ms dead) (hs : LB w' T F nm v dead') (hk : Kept (fun k => k = T) w w') : LG w' T F M nm ps clock lim arm dn v ms dead' :=
  ⟨h.f.kept hk (fun k hm e => h.nT (e ▸ hm)), hs, h.row.kept hk fun k e e2 => h.lb.noRow h.row (by decide) (e2 ▸ e), fun p hp => own_kept (h.rr p hp) hk fun k e e2 => h.lb.noRow (h.rr p hp) (by decide) (e2 ▸ e), fun p hp r hr => own_kept (h.own p hp r hr) hk fun k e e2 => h.lb.noRow (h.own p hp r hr) (by decide) (e2 ▸ e), h.nT, h.nv, h.nr, h.nq, h.dj⟩
end
/-- The segments, pure. -/
def prts (ms : List PM) : List Prt := ms.map PM.prt
/-- What Sync answers and leaves. -/
def SyncPost (w : World) (T F M : Nat) (nm : ByteArray) (ps : List PF) (lim arm : Int) (v : Value) (ms : List PM) (d : Disk) (e : Ending) (w' : World) : Prop :=
  ∃ er ps' c', e = .returned (.int .i64 er) ∧
    ((er = 0 ∧ arm ≠ 1 ∧ LG w' T F M nm ps' c' lim (decA arm) false v ms false ∧ lk ps' = d) ∨ (er = 13 ∧ arm = 1 ∧ LG w' T F M nm ps' c' lim (decA arm) true v ms true ∧ lk ps' = lk ps)) ∧ MvL w T F M ps v ms ps' v ms w'
set_option maxRecDepth 100000 in
set_option maxHeartbeats 4000000 in
theorem slSync_some (w : World) (T F M : Nat) (nm : ByteArray) (ps : List PF) (clock : Nat) (lim arm : Int) (v : Value) (ms : List PM) (p : PM) (sv : FV) (h : LG w T F M nm ps clock lim arm false v (ms ++ [p]) false) (hn : ms.length ≤ 1000000) (hnm : nm.size ≤ 1000000) (h64 : p.first < 18446744073709551616) (hl : lk ps (fileB nm p.first) = some sv) :
    Calls Tryd.prog 20 #[.pointer (some ⟨T, 0, none⟩)] w (SyncPost w T F M nm ps lim arm v (ms ++ [p]) ((lk ps).put (fileB nm p.first) (some (sv.1, sv.1.length)))) := by
  have H := Lib.hid h
  have HR := Lib.hid (slReady_ok w T F M nm v lim arm h.lb h.f.fb)
  obtain ⟨G, c, rfl, hob, hc, hc9, hG, hcell⟩ := h.row.form (by simp)
  obtain ⟨n, hn'⟩ : ∃ n, n = ms.length := ⟨_, rfl⟩
  have hlen : (ms ++ [p]).length = n + 1 := by rw [hn']; simp
  rw [hlen] at hc H
  rw [hlen]
  have hp : (ms ++ [p])[n]? = some p := by rw [hn']; simp
  obtain ⟨g0, -, -⟩ := hcell n p hp
  have HLa := Lib.hid (slLast_some w T F nm G n c false H.out.lb (by omega) hc)
  have HFi : Hid (∀ W, Calls Tryd.prog 22 #[.string nm, .int .u64 (p.first : Nat)] W fun e w' => e = .returned (.string (fileB nm p.first)) ∧ Kept (fun _ => False) W w') := Lib.hid fun W => slFile_any W nm p.first hnm h64
  have HLk := Lib.hid hl
  have c0 := H.out.lb.c0
  have c1 := H.out.lb.c1
  have HS : Hid (∀ W S, Kept S w W → ¬ S T → ¬ S G → W.cell? ⟨T, 0, none⟩ = some (.pointer (some ⟨F, 0, none⟩)) ∧ W.cell? ⟨T, 1, none⟩ = some (.string nm) ∧ W.cell? ⟨G, n * 3, none⟩ = some (.int .u64 (p.first : Nat))) := Lib.hid fun W S hk hS hG => ⟨hk.cell c0 hS, hk.cell c1 hS, hk.cell g0 hG⟩
  have HGf : Hid (G ∉ foot F M ps ∧ G ≠ T) := Lib.hid ⟨H.out.nv G hob, fun e => H.out.lb.noRow H.out.row (by decide) (e ▸ hob)⟩
  clear h hcell hp hob hlen hn' hl hn hc9
  go_enter Tryd.func20, Tryd.ntmps20
  go_upto_region 7 with (first | (go_at_call 30; refine HR.out.mono ?_; rintro e w ⟨rfl, rfl⟩) | (go_at_call 32; refine HLa.out.mono ?_; rintro e w9 ⟨rfl, m9, rfl⟩))
  obtain ⟨W1, hW1⟩ : ∃ W1, W1 = w.drewN m9 := ⟨_, rfl⟩
  have HK1 : Hid (Kept (fun _ => False) w W1) := Lib.hid (by rw [hW1]; exact (Kept.refl _ _).drewN _)
  rw [← hW1]
  have s1 := HS.out W1 _ HK1.out (by simp) (by simp)
  clear hW1 c0 c1 g0
  go_region_held3 (fun W => W.cell? ⟨T, 0, none⟩ = some (.pointer (some ⟨F, 0, none⟩)) ∧ W.cell? ⟨T, 1, none⟩ = some (.string nm) ∧ W.cell? ⟨G, n * 3, none⟩ = some (.int .u64 (p.first : Nat))) (first | assumption | exact s1) (first
    | (go_at_call 33; refine (slMet_any w3 T F nm _ false er HLB3.out).mono ?_; rintro e w4 ⟨rfl, hl4, hk4⟩; have HL4 := Lib.hid hl4; have HK4 := Lib.hid hk4; have s4 : w4.cell? ⟨T, 0, none⟩ = some (.pointer (some ⟨F, 0, none⟩)) ∧ w4.cell? ⟨T, 1, none⟩ = some (.string nm) ∧ w4.cell? ⟨G, n * 3, none⟩ = some (.int .u64 (p.first : Nat)) := ⟨hl4.c0, hl4.c1, hk4.cell s3.2.2 HGf.out.2⟩; clear hl4 hk4)
    | (go_at_call 42; refine ((sync_D (fileB nm p.first) sv (H.out.stay HK2.out).f HLk.out).mono fun _ _ h => opR_of h).mono ?_; rintro e w3 ⟨er, rfl, ps3, c3, h3⟩; have H3 := Lib.hid h3; have HKF : Hid (Kept (fun k => k ∈ foot F M ps) w2 w3) := Lib.hid (by rcases h3 with ⟨_, _, hw, _⟩ | ⟨_, _, hw, _⟩ <;> exact hw.kept); have HLB3 := Lib.hid ((H.out.stay HK2.out).lb.kept HKF.out H.out.nT); have s3 := HS.out w3 _ ((HK2.out.mono fun _ _ e => e.elim).trans' HKF.out) H.out.nT HGf.out.1; clear h3)
    | (go_at_call 22; refine (HFi.out _).mono ?_; rintro e w2 ⟨rfl, hk⟩; have HK2 : Hid (Kept (fun _ => False) w w2) := (by first | exact Lib.hid (HK1.out.trans' hk) | exact Lib.hid (HK1.out.drew.trans' hk)); have s2 := HS.out w2 _ HK2.out (by simp) (by simp); clear hk))
  go_wp2
  go_ret
  have hM2 : MvL w T F M ps (.slice (some ⟨G, 0, none⟩) (n + 1) c) (ms ++ [p]) ps (.slice (some ⟨G, 0, none⟩) (n + 1) c) (ms ++ [p]) w2 := MvL.stay HK2.out
  have hm := slMet_any w3 T F nm (.slice (some ⟨G, 0, none⟩) (n + 1) c) false er HLB3.out
  rcases H3.out with ⟨rfl, ha, hw, hd⟩ | ⟨rfl, ha, hw, hd⟩
  · refine ⟨13, ps3, c3, rfl, .inr ⟨rfl, ha, ((H.out.stay HK2.out).went hw).turn (by simpa using HL4.out) HK4.out, hd⟩, (hM2.trans (MvL.went hw)).trans (MvL.turn HK4.out)⟩
  · refine ⟨0, ps3, c3, rfl, .inl ⟨rfl, ha, ((H.out.stay HK2.out).went hw).turn (by simpa using HL4.out) HK4.out, hd⟩, (hM2.trans (MvL.went hw)).trans (MvL.turn HK4.out)⟩
end Go.Proofs.YtefpigakhhfcaaaDoor
end

/-! A log, one segment more; one record more. -/
section
set_option linter.unusedVariables false
set_option linter.unusedSimpArgs false
namespace Go.Proofs.YtefpigakhhfcaaaDoor
open Go.RowKit

theorem infoPt : (Tryd.prog.info? 71).map (fun i => (i.zero, i.size, i.bytes)) = some (some (.agg #[.int .u64 0, .slice none 0 0, .int .i64 0]), 3, 40) := by kernel_rfl
theorem elemPt : ElemT 59 71 3 40 := ElemT.of Tryd.underlying59 infoPt (by kernel_rfl) (by decide) (by decide)
theorem infoBs : (Tryd.prog.info? 31).map (fun i => (i.zero, i.size, i.bytes)) = some (some (.slice none 0 0), 1, 24) := by kernel_rfl
theorem elemBs : ElemT 22 31 1 24 := ElemT.of Tryd.underlying22 infoBs (by kernel_rfl) (by decide) (by decide)
/-- What the slice of a segment's records reads as. -/
theorem own_bbs {w : World} {b : Nat} {v : Value} {A : Option Addr} {c : Nat} {rs : List BV} (hv : v = .slice A rs.length c) (h : w.ownsRow b 31 1 v rs.length (rs.map BV.val)) (ho : ∀ r ∈ rs, w.ownsRow 0 5 1 r.val r.b.length (r.b.map bv)) : BBs w A rs := by
  intro j r hr
  obtain ⟨G, c', hv', -, -, hcell⟩ := own_cell h (by have := (List.getElem?_eq_some_iff.1 hr).1; omega)
  rw [hv] at hv'
  simp only [Value.slice.injEq] at hv'
  obtain ⟨rfl, -, rfl⟩ := hv'
  obtain ⟨A2, c2, h2, -, h3, h4, -⟩ := Bs.of_own (ho r (List.mem_of_getElem? hr))
  unfold BV.val at h2
  simp only [Value.slice.injEq] at h2
  obtain ⟨rfl, -, rfl⟩ := h2
  have e1 : (⟨G, 0, none⟩ : Addr).add j = ⟨G, j, none⟩ := by unfold Addr.add; split <;> simp_all
  exact ⟨_, rfl, by rw [e1]; exact hcell j _ (by simp [hr, BV.val]), h3, h4⟩
section
variable {w w0 w1 w2 : World} {T F M : Nat} {nm : ByteArray} {ps : List PF} {clock : Nat} {lim arm : Int} {dn dead : Bool} {v v' : Value} {ms : List PM} {p : PM}
theorem LG.rd (h : LG w T F M nm ps clock lim arm dn v ms dead) : ∀ p ∈ ms, BBs w p.A p.rs := fun p hp => own_bbs (b := 0) rfl (h.rr p hp) (h.own p hp)
theorem pw_snoc {R : PM → PM → Prop} {l : List PM} {x y : PM} (h : (l ++ [x]).Pairwise R) (hy : ∀ a ∈ l, R a y) : (l ++ [y]).Pairwise R := by
  rw [List.pairwise_append] at h ⊢
  exact ⟨h.1, List.pairwise_singleton _ _, fun a ha b hb => by rw [List.mem_singleton.1 hb]; exact hy a ha⟩
/-- A segment more: the row has grown, and is stored. -/
theorem LG.more {f : Nat} (h : LG w0 T F M nm ps clock lim arm dn v ms dead) (hk : Kept (fun _ => False) w0 w) (ho : w1.ownsRow 0 71 3 v' (ms.length + 1) (cellsM ms ++ [.int .u64 (f : Nat), .slice none 0 0, .int .i64 0])) (hg : Grew w w1 v v') :
    LG (w1.setCell ⟨T, 2, none⟩ v') T F M nm ps clock lim arm dn v' (ms ++ [⟨f, none, 0, []⟩]) dead ∧ MvL w0 T F M ps v ms ps v' (ms ++ [⟨f, none, 0, []⟩]) (w1.setCell ⟨T, 2, none⟩ v') := by
  have h0 := h.stay hk
  have hK := hg.kept
  have hT := kF w1 T 2 v'
  have hTl := h0.lb.lt
  have hvT : v.ownBlock ≠ some T := h0.lb.noRow h0.row (by decide)
  have hlb : LB w1 T F nm v dead := h0.lb.kept hK hvT
  have hnew : ∀ k, v'.ownBlock = some k → v.ownBlock = some k ∨ w.heap.size ≤ k := fun k e => by
    rcases hg with ⟨e1, -⟩ | ⟨e1, -⟩
    · exact .inl (e1 ▸ e)
    · rw [e1] at e; injection e with e; exact .inr (by omega)
  have hfl := h0.f.lt
  refine ⟨⟨(h0.f.kept hK fun k hm e => h0.nv k e hm).kept hT fun k hm e => h0.nT (e ▸ hm), hlb.s2 v', ?_, fun q hq => ?_, fun q hq r hr => ?_, h0.nT, fun k e hm => ?_, fun q hq k e hm => ?_, fun q hq r hr k e hm => ?_, ?_⟩, ?_, fun k e => ?_⟩
  · have h1 : w1.ownsRow 0 71 3 v' (ms ++ [(⟨f, none, 0, []⟩ : PM)]).length (cellsM (ms ++ [⟨f, none, 0, []⟩])) := by
      rw [List.length_append, List.length_singleton, cellsM_append]; exact ho
    exact own_kept h1 hT fun k e e2 => hlb.noRow h1 (by decide) (e2 ▸ e)
  · rcases List.mem_append.1 hq with hq | hq
    · have h1 := own_kept (h0.rr q hq) hK fun k e e2 => own_two (by decide) h0.row (h0.rr q hq) k e2 e
      exact own_kept h1 hT fun k e e2 => hlb.noRow h1 (by decide) (e2 ▸ e)
    · rw [List.mem_singleton.1 hq]; exact World.ownsRow_nil _ _ _ _
  · rcases List.mem_append.1 hq with hq | hq
    · have h1 := own_kept (h0.own q hq r hr) hK fun k e e2 => own_two (by decide) h0.row (h0.own q hq r hr) k e2 e
      exact own_kept h1 hT fun k e e2 => hlb.noRow h1 (by decide) (e2 ▸ e)
    · rw [List.mem_singleton.1 hq] at hr; cases hr
  · rcases hnew k e with e1 | e1
    · exact h0.nv k e1 hm
    · have := hfl k hm; omega
  · rcases List.mem_append.1 hq with hq | hq
    · exact h0.nr q hq k e hm
    · rw [List.mem_singleton.1 hq] at e; cases e
  · rcases List.mem_append.1 hq with hq | hq
    · exact h0.nq q hq r hr k e hm
    · rw [List.mem_singleton.1 hq] at hr; cases hr
  · rw [List.pairwise_append]
    refine ⟨h0.dj, List.pairwise_singleton _ _, fun a ha b hb k e => ?_⟩
    rw [List.mem_singleton.1 hb]
    exact fun e => by cases e
  · exact ((hk.mono fun _ _ e => e.elim).trans' (hK.mono fun k _ e => .inr (.inr (.inl e)))).trans' (hT.mono fun k _ e => .inl e)
  · rcases e with e | e | e | ⟨q, hq, e⟩
    · exact .inl (.inl e)
    · exact .inl (.inr (.inl e))
    · rcases hnew k e with e1 | e1
      · exact .inl (.inr (.inr (.inl e1)))
      · exact .inr (Nat.le_trans hk.size e1)
    · rcases List.mem_append.1 hq with hq | hq
      · exact .inl (.inr (.inr (.inr ⟨q, hq, e⟩)))
      · rw [List.mem_singleton.1 hq] at e; cases e
/-- A record more, in the last segment. -/
theorem LG.recd {G c' : Nat} {A' : Option Addr} {r : BV} (h : LG w0 T F M nm ps clock lim arm dn v (ms ++ [p]) dead) (hk : Kept (fun _ => False) w0 w) (hv : v.ownBlock = some G) (hr : w.ownsRow w0.heap.size 5 1 r.val r.b.length (r.b.map bv))
    (ho : w1.ownsRow 0 31 1 (.slice A' (p.rs.length + 1) c') (p.rs.length + 1) (p.rs.map BV.val ++ [r.val])) (hg : Grew w w1 p.rv (.slice A' (p.rs.length + 1) c')) :
    LG ((w1.setCell ⟨G, ms.length * 3 + 1, none⟩ (.slice A' (p.rs.length + 1) c')).setCell ⟨G, ms.length * 3 + 2, none⟩ (.int .i64 ((szP p.prt + (16 + r.b.length) : Nat) : Int))) T F M nm ps clock lim arm dn v (ms ++ [⟨p.first, A', c', p.rs ++ [r]⟩]) dead ∧
    MvL w0 T F M ps v (ms ++ [p]) ps v (ms ++ [⟨p.first, A', c', p.rs ++ [r]⟩]) ((w1.setCell ⟨G, ms.length * 3 + 1, none⟩ (.slice A' (p.rs.length + 1) c')).setCell ⟨G, ms.length * 3 + 2, none⟩ (.int .i64 ((szP p.prt + (16 + r.b.length) : Nat) : Int))) ∧
    BBs ((w1.setCell ⟨G, ms.length * 3 + 1, none⟩ (.slice A' (p.rs.length + 1) c')).setCell ⟨G, ms.length * 3 + 2, none⟩ (.int .i64 ((szP p.prt + (16 + r.b.length) : Nat) : Int))) p.A p.rs := by
  obtain ⟨u, hu⟩ : ∃ u, u = Value.slice A' (p.rs.length + 1) c' := ⟨_, rfl⟩
  obtain ⟨z, hz⟩ : ∃ z, z = szP p.prt + (16 + r.b.length) := ⟨_, rfl⟩
  rw [← hu, ← hz]
  rw [← hu] at ho hg
  have h0 := h.stay hk
  have hK := hg.kept
  have hpm : p ∈ ms ++ [p] := by simp
  obtain ⟨W3, hW3⟩ : ∃ W3, W3 = (w1.setCell ⟨G, ms.length * 3 + 1, none⟩ u).setCell ⟨G, ms.length * 3 + 2, none⟩ (.int .i64 (z : Nat)) := ⟨_, rfl⟩
  have hkG : Kept (fun k => k = G) w1 W3 := by rw [hW3]; exact (kF w1 G _ u).trans' (kF _ G _ _)
  have hTl := h0.lb.lt
  have hvT : G ≠ T := fun e => h0.lb.noRow h0.row (by decide) (e ▸ hv)
  have hrT : p.rv.ownBlock ≠ some T := h0.lb.noRow (h0.rr p hpm) (by decide)
  have hnew : ∀ k, u.ownBlock = some k → p.rv.ownBlock = some k ∨ w.heap.size ≤ k := fun k e => by
    rcases hg with ⟨e1, -⟩ | ⟨e1, -⟩
    · exact .inl (e1 ▸ e)
    · rw [e1] at e; injection e with e; exact .inr (by omega)
  have hfl := h0.f.lt
  have hGl := own_ltH h0.row G hv
  have hrow1 : w1.ownsRow 0 71 3 v (ms ++ [p]).length (cellsM (ms ++ [p])) := own_kept h0.row hK fun k e e2 => own_two (by decide) h0.row (h0.rr p hpm) k e e2
  have hGn : G ∉ foot F M ps := h0.nv G hv
  -- rows of other kinds stay
  have st : ∀ {b e s n : Nat} {x : Value} {xs : List Value}, w.ownsRow b e s x n xs → e ≠ 71 → (∀ k, x.ownBlock = some k → p.rv.ownBlock ≠ some k) → W3.ownsRow b e s x n xs := fun {b e s n x xs} hx he hn =>
    own_kept (own_kept hx hK fun k e1 e2 => hn k e1 e2) hkG fun k e1 e2 => own_two he hx h0.row k e1 (e2 ▸ hv)
  have hnewR : W3.ownsRow 0 31 1 u (p.rs.length + 1) (p.rs.map BV.val ++ [r.val]) := own_kept ho hkG fun k e1 e2 => own_two (by decide) ho hrow1 k e1 (e2 ▸ hv)
  have hrec : W3.ownsRow w0.heap.size 5 1 r.val r.b.length (r.b.map bv) := st hr (by decide) fun k e1 e2 => own_two (by decide) hr (h0.rr p hpm) k e1 e2
  have hown3 : ∀ q ∈ ms ++ [p], ∀ x ∈ q.rs, W3.ownsRow 0 5 1 x.val x.b.length (x.b.map bv) := fun q hq x hx => st (h0.own q hq x hx) (by decide) fun k e1 e2 => own_two (by decide) (h0.own q hq x hx) (h0.rr p hpm) k e1 e2
  have hdj : ∀ q ∈ ms, ∀ k, q.rv.ownBlock = some k → p.rv.ownBlock ≠ some k := fun q hq k e => by
    have := h0.dj
    rw [List.pairwise_append] at this
    exact this.2.2 q hq p (by simp) k e
  rw [← hW3]
  have hp' : (⟨p.first, A', c', p.rs ++ [r]⟩ : PM).rv = u := by rw [hu]; simp [PM.rv]
  refine ⟨⟨(h0.f.kept hK fun k hm e => h0.nr p hpm k e hm).kept hkG fun k hm e => hGn (e ▸ hm), (h0.lb.kept hK hrT).kept hkG fun e => hvT e.symm, ?_, fun q hq => ?_, fun q hq x hx => ?_, h0.nT, h0.nv, fun q hq k e hm => ?_, fun q hq x hx k e hm => ?_, pw_snoc h0.dj fun a ha k e e2 => ?_⟩, ⟨?_, fun k e => ?_⟩, ?_⟩
  · have h1 := own_set hrow1 hv (ms.length * 3 + 1) u (by rw [hu]; rfl) (by rw [cellsM_len]; simp; omega)
    have h2 := own_set h1 hv (ms.length * 3 + 2) (.int .i64 (z : Nat)) rfl (by rw [List.length_set, cellsM_len]; simp; omega)
    rw [← hW3] at h2
    have h3 := cellsM_last ms p ⟨p.first, A', c', p.rs ++ [r]⟩ rfl
    have h4 : szP (⟨p.first, A', c', p.rs ++ [r]⟩ : PM).prt = z := by
      rw [hz]
      have := szP_snoc p.prt r.b
      simpa [PM.prt] using this
    rw [hp', h4] at h3
    rw [h3] at h2
    unfold RowM
    simpa using h2
  · rcases List.mem_append.1 hq with hq | hq
    · exact st (h0.rr q (List.mem_append_left _ hq)) (by decide) fun k e1 e2 => hdj q hq k e1 e2
    · rw [List.mem_singleton.1 hq, hp']
      simpa using hnewR
  · rcases List.mem_append.1 hq with hq | hq
    · exact hown3 q (List.mem_append_left _ hq) x hx
    · rw [List.mem_singleton.1 hq] at hx
      rcases List.mem_append.1 hx with hx | hx
      · exact hown3 p hpm x hx
      · rw [List.mem_singleton.1 hx]; exact own_low hrec (Nat.zero_le _)
  · rcases List.mem_append.1 hq with hq | hq
    · exact h0.nr q (List.mem_append_left _ hq) k e hm
    · rw [List.mem_singleton.1 hq, hp'] at e
      rcases hnew k e with e1 | e1
      · exact h0.nr p hpm k e1 hm
      · have := hfl k hm; omega
  · rcases List.mem_append.1 hq with hq | hq
    · exact h0.nq q (List.mem_append_left _ hq) x hx k e hm
    · rw [List.mem_singleton.1 hq] at hx
      rcases List.mem_append.1 hx with hx | hx
      · exact h0.nq p hpm x hx k e hm
      · rw [List.mem_singleton.1 hx] at e
        have h1 := own_ge hr k e
        have h2 := h.f.lt k hm
        omega
  · rw [hp'] at e2
    rcases hnew k e2 with e1 | e1
    · exact hdj a ha k e e1
    · have := own_ltH (h0.rr a (List.mem_append_left _ ha)) k e; omega
  · exact ((hk.mono fun _ _ e => e.elim).trans' (hK.mono fun k _ e => .inr (.inr (.inr ⟨p, hpm, e⟩)))).trans' (hkG.mono fun k _ e => .inr (.inr (.inl (by rw [e]; exact hv))))
  · rcases e with e | e | e | ⟨q, hq, e⟩
    · exact .inl (.inl e)
    · exact .inl (.inr (.inl e))
    · exact .inl (.inr (.inr (.inl e)))
    · rcases List.mem_append.1 hq with hq | hq
      · exact .inl (.inr (.inr (.inr ⟨q, List.mem_append_left _ hq, e⟩)))
      · rw [List.mem_singleton.1 hq, hp'] at e
        rcases hnew k e with e1 | e1
        · exact .inl (.inr (.inr (.inr ⟨p, hpm, e1⟩)))
        · exact .inr (Nat.le_trans hk.size e1)
  · -- the old slice reads as before
    intro j x hx
    have hj := (List.getElem?_eq_some_iff.1 hx).1
    obtain ⟨G1, c1, hv1, hb1, -, hcell⟩ := own_cell (h0.rr p hpm) (by omega)
    unfold PM.rv at hv1
    simp only [Value.slice.injEq] at hv1
    obtain ⟨hA, -, -⟩ := hv1
    obtain ⟨A2, c2, h2, -, h3, h4, -⟩ := Bs.of_own (hown3 p hpm x (List.mem_of_getElem? hx))
    unfold BV.val at h2
    simp only [Value.slice.injEq] at h2
    obtain ⟨rfl, -, rfl⟩ := h2
    have e1 : (⟨G1, 0, none⟩ : Addr).add j = ⟨G1, j, none⟩ := by unfold Addr.add; split <;> simp_all
    refine ⟨_, hA, ?_, h3, h4⟩
    rw [e1]
    have hG1 : G1 ≠ G := fun e => own_two (by decide) (h0.rr p hpm) h0.row G1 hb1 (e ▸ hv)
    rcases hg with ⟨e2, -⟩ | ⟨e2, hgn⟩
    · obtain ⟨G2, c3, hv2, hb2, -, hcell2⟩ := own_cell hnewR (by omega)
      rw [hb1] at e2
      have : G2 = G1 := by rw [hb2] at e2; injection e2
      subst this
      exact hcell2 j _ (by rw [List.getElem?_append_left (by simpa using hj)]; simp [hx, BV.val])
    · have h5 := hcell j x.val (by simp [hx])
      have h6 : w1.cell? ⟨G1, j, none⟩ = w.cell? ⟨G1, j, none⟩ := World.cell?_of_block (w := w) (hgn.block G1 (own_ltH (h0.rr p hpm) G1 hb1) (by simp))
      rw [← h6] at h5
      exact hkG.cell h5 hG1
end
end Go.Proofs.YtefpigakhhfcaaaDoor
end
