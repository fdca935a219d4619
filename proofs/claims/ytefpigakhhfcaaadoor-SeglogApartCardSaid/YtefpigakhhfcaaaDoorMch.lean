import Derived.Test.YtefpigakhhfcaaaDoorMcb
import Derived.Test.YtefpigakhhfcaaaDoorMcg
import Derived.Test.YtefpigakhhfcaaaDoorMao
/-! Two logs of other names on the same files. -/
section
set_option linter.unusedVariables false
set_option linter.unusedSimpArgs false
namespace Go.Proofs.YtefpigakhhfcaaaDoor
open Go.RowKit

/-- What is one log's alone is none of the other's. -/
structure Two (Ta : Nat) (va : Value) (ma : List PM) (Tb : Nat) (vb : Value) (mb : List PM) : Prop where
  t : Ta ≠ Tb
  v : ∀ k, va.ownBlock = some k → vb.ownBlock ≠ some k
  r : ∀ p ∈ ma, ∀ q ∈ mb, ∀ k, p.rv.ownBlock = some k → q.rv.ownBlock ≠ some k
theorem Two.symm {Ta Tb : Nat} {va vb : Value} {ma mb : List PM} (h : Two Ta va ma Tb vb mb) : Two Tb vb mb Ta va ma :=
  ⟨fun e => h.t e.symm, fun k e e2 => h.v k e2 e, fun p hp q hq k e e2 => h.r q hq p hp k e2 e⟩
section
variable {w w' : World} {Ta Tb F M : Nat} {na nb : ByteArray} {ps ps' : List PF} {clock clock' : Nat} {lim lim' arm arm' : Int} {dn dn' da db da' : Bool} {va vb va' : Value} {ma mb ma' : List PM}
theorem Two.bt (h : Two Ta va ma Tb vb mb) (ha : LG w Ta F M na ps clock lim arm dn va ma da) (hb : LG w Tb F M nb ps clock lim arm dn vb mb db) : ¬ LFoot Ta F M ps va ma Tb := fun e => by
  rcases e with e | e | e | ⟨p, hp, e⟩
  · exact h.t e.symm
  · exact hb.nT e
  · exact hb.lb.noRow ha.row (by decide) e
  · exact hb.lb.noRow (ha.rr p hp) (by decide) e
theorem Two.bv (h : Two Ta va ma Tb vb mb) (ha : LG w Ta F M na ps clock lim arm dn va ma da) (hb : LG w Tb F M nb ps clock lim arm dn vb mb db) : ∀ k, vb.ownBlock = some k → ¬ LFoot Ta F M ps va ma k := fun k e e2 => by
  rcases e2 with e2 | e2 | e2 | ⟨p, hp, e2⟩
  · exact ha.lb.noRow hb.row (by decide) (e2 ▸ e)
  · exact hb.nv k e e2
  · exact h.v k e2 e
  · exact own_two (by decide) (ha.rr p hp) hb.row k e2 e
theorem Two.br (h : Two Ta va ma Tb vb mb) (ha : LG w Ta F M na ps clock lim arm dn va ma da) (hb : LG w Tb F M nb ps clock lim arm dn vb mb db) : ∀ q ∈ mb, ∀ k, q.rv.ownBlock = some k → ¬ LFoot Ta F M ps va ma k := fun q hq k e e2 => by
  rcases e2 with e2 | e2 | e2 | ⟨p, hp, e2⟩
  · exact ha.lb.noRow (hb.rr q hq) (by decide) (e2 ▸ e)
  · exact hb.nr q hq k e e2
  · exact own_two (by decide) ha.row (hb.rr q hq) k e2 e
  · exact h.r p hp q hq k e2 e
theorem Two.bq (h : Two Ta va ma Tb vb mb) (ha : LG w Ta F M na ps clock lim arm dn va ma da) (hb : LG w Tb F M nb ps clock lim arm dn vb mb db) : ∀ q ∈ mb, ∀ r ∈ q.rs, ∀ k, r.val.ownBlock = some k → ¬ LFoot Ta F M ps va ma k := fun q hq r hr k e e2 => by
  rcases e2 with e2 | e2 | e2 | ⟨p, hp, e2⟩
  · exact ha.lb.noRow (hb.own q hq r hr) (by decide) (e2 ▸ e)
  · exact hb.nq q hq r hr k e e2
  · exact own_two (by decide) ha.row (hb.own q hq r hr) k e2 e
  · exact own_two (by decide) (ha.rr p hp) (hb.own q hq r hr) k e2 e
/-- One log moves, the other one stays. -/
theorem Two.beside (h : Two Ta va ma Tb vb mb) (ha : LG w Ta F M na ps clock lim arm dn va ma da) (hb : LG w Tb F M nb ps clock lim arm dn vb mb db) (hm : MvL w Ta F M ps va ma ps' va' ma' w') (ha' : LG w' Ta F M na ps' clock' lim' arm' dn' va' ma' da') :
    LG w' Tb F M nb ps' clock' lim' arm' dn' vb mb db ∧ Two Ta va' ma' Tb vb mb := by
  have ntb := h.bt ha hb
  have nvb := h.bv ha hb
  have nrb := h.br ha hb
  have nqb := h.bq ha hb
  have up : ∀ k, k < w.heap.size → ¬ LFoot Ta F M ps va ma k → ¬ LFoot Ta F M ps' va' ma' k := fun k hk hn e => (hm.feet k e).elim hn fun e => by omega
  have lv := own_ltH hb.row
  refine ⟨⟨ha'.f, hb.lb.kept hm.kept ntb, hb.row.kept hm.kept nvb, fun q hq => own_kept (hb.rr q hq) hm.kept (nrb q hq), fun q hq r hr => own_kept (hb.own q hq r hr) hm.kept (nqb q hq r hr),
    fun e => up Tb hb.lb.lt ntb (.inr (.inl e)), fun k e e2 => up k (lv k e) (nvb k e) (.inr (.inl e2)), fun q hq k e e2 => up k (own_ltH (hb.rr q hq) k e) (nrb q hq k e) (.inr (.inl e2)), fun q hq r hr k e e2 => up k (own_ltH (hb.own q hq r hr) k e) (nqb q hq r hr k e) (.inr (.inl e2)), hb.dj⟩,
    ⟨h.t, fun k e e2 => up k (lv k e2) (nvb k e2) (.inr (.inr (.inl e))), fun p hp q hq k e e2 => up k (own_ltH (hb.rr q hq) k e2) (nrb q hq k e2) (.inr (.inr (.inr ⟨p, hp, e⟩)))⟩⟩
end
/-- Two logs on the same files, and nothing else. -/
structure TW (w0 w : World) (Ta Tb F M : Nat) (na nb : ByteArray) (ps : List PF) (clock : Nat) (lim : Int) (va : Value) (ma : List PM) (sa Na : Nat) (vb : Value) (mb : List PM) (sb Nb U : Nat) : Prop where
  a : LS w Ta F M na ps clock lim 0 false va ma false sa Na
  b : LS w Tb F M nb ps clock lim 0 false vb mb false sb Nb
  two : Two Ta va ma Tb vb mb
  fa : ∀ k, LFoot Ta F M ps va ma k → w0.heap.size ≤ k
  fb : ∀ k, LFoot Tb F M ps vb mb k → w0.heap.size ≤ k
  kw : Kept (fun _ => False) w0 w
  us : usedL ps ≤ U
  ot : ∀ s, (∀ u, s ≠ fileB na u) → (∀ u, s ≠ fileB nb u) → lk ps s = none
section
variable {w0 w w' : World} {Ta Tb F M : Nat} {na nb : ByteArray} {ps : List PF} {clock : Nat} {lim : Int} {va vb : Value} {ma mb : List PM} {sa sb Na Nb U V : Nat}
theorem TW.symm (h : TW w0 w Ta Tb F M na nb ps clock lim va ma sa Na vb mb sb Nb U) : TW w0 w Tb Ta F M nb na ps clock lim vb mb sb Nb va ma sa Na U := ⟨h.b, h.a, h.two.symm, h.fb, h.fa, h.kw, h.us, fun s h1 h2 => h.ot s h2 h1⟩
theorem TW.stay (h : TW w0 w Ta Tb F M na nb ps clock lim va ma sa Na vb mb sb Nb U) (hk : Kept (fun _ => False) w w') : TW w0 w' Ta Tb F M na nb ps clock lim va ma sa Na vb mb sb Nb U := ⟨h.a.stay hk, h.b.stay hk, h.two, h.fa, h.fb, h.kw.trans' hk, h.us, h.ot⟩
theorem TW.mono {Na' Nb' : Nat} (h : TW w0 w Ta Tb F M na nb ps clock lim va ma sa Na vb mb sb Nb U) (h1 : Na ≤ Na') (h2 : Nb ≤ Nb') (hu : U ≤ V) : TW w0 w Ta Tb F M na nb ps clock lim va ma sa Na' vb mb sb Nb' V := ⟨⟨h.a.lg, h.a.ld, h.a.sm.mono h1⟩, ⟨h.b.lg, h.b.ld, h.b.sm.mono h2⟩, h.two, h.fa, h.fb, h.kw, Nat.le_trans h.us hu, h.ot⟩
/-- Append into the first one. -/
def TWApp (w0 w : World) (Ta Tb F M : Nat) (na nb : ByteArray) (lim : Int) (ma : List PM) (Na : Nat) (vb : Value) (mb : List PM) (sb Nb U : Nat) (xs : List UInt8) (e : Ending) (w' : World) : Prop :=
  ∃ ps' c' va' ma' sa', e = .returned (.tuple #[.int .u64 ((nxtP (prts ma) : Nat) : Int), .int .i64 0]) ∧ TW w0 w' Ta Tb F M na nb ps' c' lim va' ma' sa' (Na + 1) vb mb sb Nb (U + (16 + xs.length)) ∧ prts ma' = logPut (prts ma) xs
theorem TW.append {A : Option Addr} {n c : Nat} {xs : List UInt8} (h : TW w0 w Ta Tb F M na nb ps clock lim va ma sa Na vb mb sb Nb U) (hab : na ≠ nb) (hN : Na ≤ 10000) (hnm : na.size ≤ 82) (hf : fullB na = true) (hU : U + (16 + xs.length) ≤ 4194304) (hlim : ((U + (16 + xs.length) : Nat) : Int) ≤ lim)
    (hx : ∀ W, Kept (fun k => w0.heap.size ≤ k) w0 W → Bs W A xs) (hn : n = xs.length) (hA : A = none → c = 0) (hs : xs.length ≤ 2000) : Calls Tryd.prog 10 #[.pointer (some ⟨Ta, 0, none⟩), .slice A n c] w (TWApp w0 w Ta Tb F M na nb lim ma Na vb mb sb Nb U xs) := by
  have hu := h.us
  refine (slAppend_0 h.a hN hnm hf (by omega) (by omega) (fun W hW => hx W ((h.kw.mono fun _ _ e => e.elim).trans hW fun i hi e => h.fa i e)) hn hA hs).mono ?_
  rintro e w' ⟨ps', c', v', ms', sf', rfl, hl, hp, hm, -, ho, hu'⟩
  obtain ⟨hb, ht⟩ := h.two.beside h.a.lg h.b.lg hm hl.lg
  have hfile : ∀ v s, s = fileB nb v → lk ps' s = lk ps s := fun v s e => ho s fun u e2 => hab (fileB_nm (e2.symm.trans e))
  refine ⟨ps', c', v', ms', sf', rfl, ⟨hl, ⟨hb, fun v hv => by rw [hfile v _ rfl]; exact h.b.ld v hv, h.b.sm⟩, ht, fun k e => (hm.feet k e).elim (h.fa k) fun e => Nat.le_trans h.kw.size e, fun k e => ?_, h.kw.trans hm.kept fun i hi e => by have := h.fa i e; omega, by omega, fun s h1 h2 => (ho s h1).trans (h.ot s h1 h2)⟩, hp⟩
  rcases e with e | e | e | e
  · exact h.fb k (.inl e)
  · exact (hm.feet k (.inr (.inl e))).elim (h.fa k) fun e => Nat.le_trans h.kw.size e
  · exact h.fb k (.inr (.inr (.inl e)))
  · exact h.fb k (.inr (.inr (.inr e)))
/-- How many files there are. -/
theorem TW.files (h : TW w0 w Ta Tb F M na nb ps clock lim va ma sa Na vb mb sb Nb U) (hN : Na ≤ 10000) (hN2 : Nb ≤ 10000) : ps.length ≤ Na + Nb + 2 ∧ ∀ p ∈ ps, p.name.size ≤ na.size + nb.size + 18 := by
  have key : ∀ p ∈ ps, p.name ∈ ((prts ma).map Prod.fst).map (fileB na) ++ ((prts mb).map Prod.fst).map (fileB nb) := fun p hp => by
    have h1 : lk ps p.name ≠ none := lk_mem hp
    have h2 : (∃ u, p.name = fileB na u) ∨ ∃ u, p.name = fileB nb u := Classical.byContradiction fun hno => h1 (h.ot p.name (fun u e => hno (.inl ⟨u, e⟩)) fun u e => hno (.inr ⟨u, e⟩))
    rw [List.mem_append]
    rcases h2 with ⟨u, hu⟩ | ⟨u, hu⟩
    all_goals
      rw [fileB_mod] at hu
      have hlt : u % 18446744073709551616 < 18446744073709551616 := Nat.mod_lt _ (by decide)
      rw [hu] at h1 ⊢
    · exact .inl (List.mem_map_of_mem ((h.a.ld.mem hlt).1 h1))
    · exact .inr (List.mem_map_of_mem ((h.b.ld.mem hlt).1 h1))
  refine ⟨?_, fun p hp => ?_⟩
  · have h1 := len_sub (S := ((prts ma).map Prod.fst).map (fileB na) ++ ((prts mb).map Prod.fst).map (fileB nb)) h.a.lg.f.names (fun x hx => by
      obtain ⟨p, hp, rfl⟩ := List.mem_map.1 hx
      exact key p hp)
    simp only [List.length_append, List.length_map] at h1
    have h2 := h.a.sm.few
    have h3 := h.b.sm.few
    omega
  · rcases List.mem_append.1 (key p hp) with h1 | h1
    all_goals
      obtain ⟨u, -, hu⟩ := List.mem_map.1 h1
      rw [← hu, size_fileB]
      omega
/-- The first one opened again. -/
def TWOpen (w0 w : World) (F M : Nat) (na : ByteArray) (lim : Int) (G : List Prt) (e : Ending) (w' : World) : Prop :=
  ∃ T2 v' ms' ps' c', e = .returned (.tuple #[.pointer (some ⟨T2, 0, none⟩), .int .i64 0]) ∧ LG w' T2 F M na ps' c' lim 0 false v' ms' false ∧ prts ms' = G ∧ Kept (fun _ => False) w0 w'
theorem TW.reopen (h : TW w0 w Ta Tb F M na nb ps clock lim va ma sa Na vb mb sb Nb U) (hN : Na ≤ 400) (hN2 : Nb ≤ 400) (hnm : na.size ≤ 82) (hnm2 : nb.size ≤ 82) (hf : fullB na = true) (hne : LastNE (prts ma)) : Calls Tryd.prog 7 #[.pointer (some ⟨F, 0, none⟩), .string na] w (TWOpen w0 w F M na lim (prts ma)) := by
  obtain ⟨hfi, hfn⟩ := h.files (by omega) (by omega)
  have hsm := h.a.sm
  refine (slOpen_any w F M na ps clock lim 0 (prts ma) [] sa h.a.lg.f ⟨hsm.cont, h.a.ld, fun a q e => ⟨PartF.nil _, h.a.sfl (by omega) a q e⟩, hsm.short, fun p hp => by have := (hsm.one hp).2.2; omega, by have := hsm.few; omega, by have := hsm.nx; omega, hnm, hf, by omega, fun p hp => by have := hfn p hp; omega⟩).mono ?_
  rintro e w' (⟨T2, v', ms', ps', c', arm', rfl, hT, hl, hp, hft, hk, -, -, ha, -⟩ | ⟨ps', c', rfl, ha, -⟩)
  · have ha0 : arm' = 0 := ha rfl
    subst ha0
    refine ⟨T2, v', ms', ps', c', rfl, hl, by rw [hp, hne.norm], h.kw.trans hk fun i hi e => ?_⟩
    have := h.fa i (.inr (.inl e))
    omega
  · cases ha
/-- A second log, of another name, opened where the first one has nothing yet. -/
def TWFirst (w0 : World) (Ta F M : Nat) (na nb : ByteArray) (lim : Int) (e : Ending) (w' : World) : Prop :=
  ∃ Tb ps' c' va sa vb, e = .returned (.tuple #[.pointer (some ⟨Tb, 0, none⟩), .int .i64 0]) ∧ TW w0 w' Ta Tb F M na nb ps' c' lim va [] sa 0 vb [] 0 0 0
theorem TW.first (h : LW w0 w (fun _ => none) Ta F M na ps clock lim va [] sa 0 0) (hab : na ≠ nb) (hnb : nb.size ≤ 82) (hf : fullB nb = true) (hna : na.size ≤ 82) : Calls Tryd.prog 7 #[.pointer (some ⟨F, 0, none⟩), .string nb] w (TWFirst w0 Ta F M na nb lim) := by
  obtain ⟨hfi, hfn⟩ := h.files (by omega)
  refine (slOpen_0 h.ls.lg.f (openL_none (fun u _ => h.ot _ fun u2 e => hab (fileB_nm e).symm) hnb hf (by omega) (fun p hp => by have := hfn p hp; omega))).mono ?_
  rintro e w' ⟨Tb, vb, ps', c', rfl, hT, hl, hft, hk, ho, hu⟩
  have hg : Went w F M ps ps' c' lim 0 false w' := ⟨hl.lg.f, hk, fun k e => hft k (.inr (.inl e))⟩
  have ha := h.ls.lg.went hg
  have hTa := h.ls.lg.lb.lt
  have hus := h.us
  refine ⟨Tb, ps', c', va, sa, vb, rfl, ⟨⟨ha, fun v hv => by rw [ho _ fun u e => hab (fileB_nm e)]; exact h.ls.ld v hv, h.ls.sm⟩, hl, ⟨fun e => by omega, fun k e e2 => ?_, fun p hp => by cases hp⟩, fun k e => ?_, fun k e => (hft k e).elim (fun e => h.fo k (.inr (.inl e))) fun e => Nat.le_trans h.kw.size e, h.kw.trans hk fun i hi e => by have := h.fo i (.inr (.inl e)); omega, by omega, fun s h1 h2 => (ho s h2).trans (h.ot s h1)⟩⟩
  · rcases hft k (.inr (.inr (.inl e2))) with e3 | e3
    · exact h.ls.lg.nv k e e3
    · have := own_ltH h.ls.lg.row k e; omega
  · rcases e with e | e | e | ⟨p, hp, e⟩
    · exact h.fo k (.inl e)
    · exact (hft k (.inr (.inl e))).elim (fun e => h.fo k (.inr (.inl e))) fun e => Nat.le_trans h.kw.size e
    · exact h.fo k (.inr (.inr (.inl e)))
    · cases hp
end
end Go.Proofs.YtefpigakhhfcaaaDoor
end

/-! courantlaw21.SeglogApart, walked. -/
section
set_option linter.unusedVariables false
set_option linter.unusedSimpArgs false
namespace Go.Proofs.YtefpigakhhfcaaaDoor
open Go.RowKit

/-- Of so many texts those that are appended. -/
def filt (ps : List BV) (k : Nat) : List (List UInt8) := ((ps.take k).map BV.b).filter fun b => decide (b.length < 500)
theorem filt_yes {ps : List BV} {k : Nat} {r : BV} (h : ps[k]? = some r) (hl : r.b.length < 500) : filt ps (k + 1) = filt ps k ++ [r.b] := by
  unfold filt; rw [List.take_add_one, h, Option.toList_some, List.map_append, List.filter_append]; simp [hl]
theorem filt_no {ps : List BV} {k : Nat} {r : BV} (h : ps[k]? = some r) (hl : ¬ r.b.length < 500) : filt ps (k + 1) = filt ps k := by
  unfold filt; rw [List.take_add_one, h, Option.toList_some, List.map_append, List.filter_append]; simp [hl]
theorem filt_past {ps : List BV} {k m : Nat} (h : ps.length ≤ k) (h2 : ps.length ≤ m) : filt ps m = filt ps k := by
  unfold filt; rw [List.take_of_length_le h, List.take_of_length_le h2]
theorem filt_len (ps : List BV) (k : Nat) : (filt ps k).length ≤ k := by
  unfold filt; refine Nat.le_trans (List.length_filter_le _ _) ?_; rw [List.length_map, List.length_take]; omega
theorem filt_at {ps : List BV} {k m : Nat} {r : BV} (h : ps[k]? = some r) (hl : r.b.length < 500) (hm : ps.length ≤ m) : (filt ps m)[(filt ps k).length]? = some r.b := by
  have h1 : (filt ps (k + 1)) <+: filt ps m := by
    unfold filt
    have h2 : ps.take m = ps := List.take_of_length_le hm
    rw [h2]
    exact ((List.take_prefix (k + 1) ps).map BV.b).filter _
  obtain ⟨t, ht⟩ := h1
  rw [← ht, filt_yes h hl, List.append_assoc, List.getElem?_append_right (Nat.le_refl _)]
  simp
/-- What is held when so many texts have been offered to both. -/
def ApA (w W : World) (Ta Tb F M : Nat) (p1 : List BV) (k1 k2 U : Nat) : Prop := ∃ ps c va ma sa vb mb sb, TW w W Ta Tb F M ⟨#[97]⟩ ⟨#[98]⟩ ps c 1048576 va ma sa k1 vb mb sb k2 U ∧ allR (prts ma) = filt p1 k1 ∧ fstP (prts ma) = 0 ∧ LastNE (prts ma)
theorem nmL_fullB : fullB ⟨#[98]⟩ = true := by kernel_rfl
theorem nmAB : (⟨#[97]⟩ : ByteArray) ≠ ⟨#[98]⟩ := by decide
set_option maxRecDepth 100000 in
set_option maxHeartbeats 40000000 in
theorem seglogApart_few (w : World) (A A' : Option Addr) (n c n' c' : Nat) (p1 p2 : List BV) (h : InBs w A p1) (h' : InBs w A' p2) (hn : n = p1.length) (hn' : n' = p2.length) (hn20 : n ≤ 20) (hn20' : n' ≤ 20) :
    Calls Tryd.prog 4 #[.slice A n c, .slice A' n' c'] w fun e w' => e = .returned (.bool true) ∧ Kept (fun _ => False) w w' := by
  have HN := Lib.hid (new_any w 1048576)
  have HB : Hid (boundI 1048576 = 1048576) := Lib.hid (by decide)
  have H := Lib.hid h
  have H' := Lib.hid h'
  have Hn := Lib.hid hn
  have Hn' := Lib.hid hn'
  have g20 : ¬ (20 : Int) < (n : Int) := by omega
  have g20' : ¬ (20 : Int) < (n' : Int) := by omega
  obtain ⟨mx, hmx⟩ : ∃ mx, mx = max n n' := ⟨_, rfl⟩
  have i1 : max (n : Int) (n' : Int) = (mx : Int) := by omega
  have hmx20 : mx ≤ 20 := by omega
  have hmn : n ≤ mx := by omega
  clear h h' hn hn' hmx
  go_enter Tryd.func4, Tryd.ntmps4
  go_upto_region 3 with (first
    | (go_at_call 8; refine HN.out.mono ?_; rintro e w1 ⟨F, M, rfl, hF, hk, hF1, hM1⟩; rw [HB.out] at hF; have HF := Lib.hid hF; have HK1 := Lib.hid hk; have HF1 := Lib.hid hF1; have HM1 := Lib.hid hM1; clear hF hk hF1 hM1)
    | (go_at_call 7; refine (slOpen_first (nm := ⟨#[97]⟩) HF.out HK1.out HF1.out HM1.out (by decide) nmL_full).mono ?_; rintro e w2 ⟨Ta, va0, ps2, c2, rfl, hl⟩; have HL2 := Lib.hid hl; clear hl))
  go_upto_region 6 with (first
    | (go_at_call 7; refine (TW.first HL2.out nmAB (by decide) nmL_fullB (by decide)).mono ?_; rintro e w3 ⟨Tb, ps3, c3, va3, sa3, vb3, rfl, hl3⟩; have HL3 := Lib.hid hl3; clear hl3)
    | (go_at_call 9; refine (awake21_any _).mono ?_; rintro e w4 ⟨rfl, hk4⟩; have HT4 : Hid (ApA w w4 Ta Tb F M p1 0 0 0) := Lib.hid ⟨_, _, _, _, _, _, _, _, HL3.out.stay hk4, rfl, rfl, LastNE.nil⟩; clear hk4))
  clear HF HK1 HF1 HM1 HL2 HL3 HN HB
  go_wp2_with fail
  go_loopw [10] (fun i wr => ∃ k : Nat, i = .int .i64 (k : Nat) ∧ k ≤ mx ∧ Hid (ApA w wr Ta Tb F M p1 k k (1030 * k))) (fun i _ => mx - (intOf i).toNat)
  case atStart => exact ⟨0, rfl, by omega, HT4⟩
  case round =>
    clear HT4
    obtain ⟨k, rfl, hkm, hI⟩ := hrel
    by_cases hc : k < mx
    · have g1 : (k : Int) < (mx : Int) := by omega
      have hcase : (∃ r ad, A = some ad ∧ (k : Int) < (n : Int) ∧ k < n ∧ p1[k]? = some r ∧ w.cell? (ad.add k) = some r.val ∧ Bs w r.A r.b ∧ (r.A = none → r.c = 0) ∧ r.b.length < 500) ∨ (∃ r ad, A = some ad ∧ (k : Int) < (n : Int) ∧ k < n ∧ p1[k]? = some r ∧ w.cell? (ad.add k) = some r.val ∧ ¬ r.b.length < 500) ∨ ¬ (k : Int) < (n : Int) := by
        by_cases h1 : k < n
        · obtain ⟨r, hr⟩ : ∃ r, p1[k]? = some r := ⟨_, List.getElem?_eq_getElem (by have := Hn.out; omega)⟩
          obtain ⟨ad, h2, h3, h4, h5⟩ := H.out k r hr
          by_cases h6 : r.b.length < 500
          · exact .inl ⟨r, ad, h2, by omega, h1, hr, h3, h4, h5, h6⟩
          · exact .inr (.inl ⟨r, ad, h2, by omega, h1, hr, h3, h6⟩)
        · exact .inr (.inr (by omega))
      have hcase' : (∃ (r : BV) (ad : Addr), A' = some ad ∧ (k : Int) < (n' : Int) ∧ k < n' ∧ w.cell? (ad.add k) = some r.val ∧ Bs w r.A r.b ∧ (r.A = none → r.c = 0) ∧ r.b.length < 500) ∨ (∃ (r : BV) (ad : Addr), A' = some ad ∧ (k : Int) < (n' : Int) ∧ k < n' ∧ w.cell? (ad.add k) = some (BV.val r) ∧ ¬ r.b.length < 500) ∨ ¬ (k : Int) < (n' : Int) := by
        by_cases h1 : k < n'
        · obtain ⟨r, hr⟩ : ∃ r, p2[k]? = some r := ⟨_, List.getElem?_eq_getElem (by have := Hn'.out; omega)⟩
          obtain ⟨ad, h2, h3, h4, h5⟩ := H'.out k r hr
          by_cases h6 : r.b.length < 500
          · exact .inl ⟨r, ad, h2, by omega, h1, h3, h4, h5, h6⟩
          · exact .inr (.inl ⟨r, ad, h2, by omega, h1, h3, h6⟩)
        · exact .inr (.inr (by omega))
      have Hcase' := Lib.hid hcase'
      clear hcase'
      obtain ⟨ps, cl, va, ma, sa, vb, mb, sb, hT, ha, hf, hne⟩ := hI.out
      refine Or.elim hcase ?c1 fun hcase => Or.elim hcase ?c2 ?c3
      case' c1 =>
        clear hcase
        rintro ⟨r, ad, rfl, q1, q1n, hr, hcell, hbs, hrn, hlen⟩
        have hcr := hT.kw.cell hcell (by simp)
        unfold BV.val at hcr
        have q2 : (r.b.length : Int) < 500 := by omega
        have HA := Lib.hid (hT.append (A := r.A) (n := r.b.length) (c := r.c) (xs := r.b) nmAB (by omega) (by decide) nmL_full (by omega) (by omega) (fun W hW => hbs.up hW) rfl hrn (by omega))
        have HNew : Hid (allR (logPut (prts ma) r.b) = filt p1 (k + 1) ∧ fstP (logPut (prts ma) r.b) = 0) := Lib.hid ⟨by rw [logPut_all, ha, filt_yes hr hlen], by rw [logPut_fst, hf]⟩
        clear hT ha hf hne hr hcell hbs hrn hI
        go_upto_region 11 with (go_at_call 10; refine HA.out.mono ?_; rintro e w5 ⟨ps5, c5, va5, ma5, sa5, rfl, hl5, hp5⟩; have HM : Hid (ApA w w5 Ta Tb F M p1 (k + 1) k (1030 * k + 515)) := Lib.hid ⟨ps5, c5, va5, ma5, sa5, vb, mb, sb, hl5.mono (Nat.le_refl _) (Nat.le_refl _) (by omega), by rw [hp5]; exact HNew.out.1, by rw [hp5]; exact HNew.out.2, by rw [hp5]; exact LastNE.put _ _⟩; clear hl5 hp5)
        obtain ⟨wM, hwM⟩ : ∃ wM, wM = w5 := ⟨_, rfl⟩
        rw [← hwM] at HM ⊢
        clear hwM
      case' c2 =>
        clear hcase
        rintro ⟨r, ad, rfl, q1, q1n, hr, hcell, hlen⟩
        have hcr := hT.kw.cell hcell (by simp)
        unfold BV.val at hcr
        have q2 : ¬ (r.b.length : Int) < 500 := by omega
        have HM : Hid (ApA w wr Ta Tb F M p1 (k + 1) k (1030 * k + 515)) := Lib.hid ⟨ps, cl, va, ma, sa, vb, mb, sb, hT.mono (by omega) (Nat.le_refl _) (by omega), by rw [ha, filt_no hr hlen], hf, hne⟩
        clear hT ha hf hne hr hcell hI
        go_upto_region 11 with fail
        obtain ⟨wM, hwM⟩ : ∃ wM, wM = wr := ⟨_, rfl⟩
        rw [← hwM] at HM ⊢
        clear hwM
      case' c3 =>
        clear hcase
        intro q1
        have HM : Hid (ApA w wr Ta Tb F M p1 (k + 1) k (1030 * k + 515)) := Lib.hid ⟨ps, cl, va, ma, sa, vb, mb, sb, hT.mono (by omega) (Nat.le_refl _) (by omega), by rw [ha]; exact (filt_past (by have := Hn.out; omega) (by have := Hn.out; omega)), hf, hne⟩
        clear hT ha hf hne hI
        go_upto_region 11 with fail
        obtain ⟨wM, hwM⟩ : ∃ wM, wM = wr := ⟨_, rfl⟩
        rw [← hwM] at HM ⊢
        clear hwM
      all_goals
        obtain ⟨ps, cl, va, ma, sa, vb, mb, sb, hT, ha, hf, hne⟩ := HM.out
        rcases Hcase'.out with ⟨r', ad', rfl, u1, u1n, hcell, hbs, hrn, hlen⟩ | ⟨r', ad', rfl, u1, u1n, hcell, hlen⟩ | u1
        · have hcr := hT.kw.cell hcell (by simp)
          unfold BV.val at hcr
          have u2 : (r'.b.length : Int) < 500 := by omega
          have HA := Lib.hid (hT.symm.append (A := r'.A) (n := r'.b.length) (c := r'.c) (xs := r'.b) nmAB.symm (by omega) (by decide) nmL_fullB (by omega) (by omega) (fun W hW => hbs.up hW) rfl hrn (by omega))
          have HNew := Lib.hid ha
          have Hf := Lib.hid hf
          have Hne := Lib.hid hne
          clear hT ha hf hne hcell hbs hrn HM Hcase'
          go_wp2_with (go_at_call 10; refine HA.out.mono ?_; rintro e w6 ⟨ps6, c6, vb6, mb6, sb6, rfl, hl6, hp6⟩; have HE : Hid (ApA w w6 Ta Tb F M p1 (k + 1) (k + 1) (1030 * (k + 1))) := Lib.hid ⟨ps6, c6, va, ma, sa, vb6, mb6, sb6, hl6.symm.mono (Nat.le_refl _) (Nat.le_refl _) (by omega), HNew.out, Hf.out, Hne.out⟩; clear hl6 hp6)
          go_roundw
          case rel => exact ⟨k + 1, by go_num, by omega, HE⟩
          case measure => simp [intOf]; omega
        · have hcr := hT.kw.cell hcell (by simp)
          unfold BV.val at hcr
          have u2 : ¬ (r'.b.length : Int) < 500 := by omega
          have HE : Hid (ApA w wM Ta Tb F M p1 (k + 1) (k + 1) (1030 * (k + 1))) := Lib.hid ⟨ps, cl, va, ma, sa, vb, mb, sb, hT.mono (Nat.le_refl _) (by omega) (by omega), ha, hf, hne⟩
          clear hT ha hf hne hcell HM Hcase'
          go_wp2_with fail
          go_roundw
          case rel => exact ⟨k + 1, by go_num, by omega, HE⟩
          case measure => simp [intOf]; omega
        · have HE : Hid (ApA w wM Ta Tb F M p1 (k + 1) (k + 1) (1030 * (k + 1))) := Lib.hid ⟨ps, cl, va, ma, sa, vb, mb, sb, hT.mono (Nat.le_refl _) (by omega) (by omega), ha, hf, hne⟩
          clear hT ha hf hne HM Hcase'
          go_wp2_with fail
          go_roundw
          case rel => exact ⟨k + 1, by go_num, by omega, HE⟩
          case measure => simp [intOf]; omega
    · have hX : ¬ (k : Int) < (mx : Int) := by omega
      obtain ⟨ps, cl, va, ma, sa, vb, mb, sb, hT, ha, hf, hne⟩ := hI.out
      have hall : allR (prts ma) = filt p1 n := by rw [ha]; exact filt_past (by have := Hn.out; omega) (by have := Hn.out; omega)
      obtain ⟨L, hL⟩ : ∃ L, L = (filt p1 n).length := ⟨_, rfl⟩
      have hL20 : L ≤ 20 := by have := filt_len p1 n; omega
      have hnx : nxtP (prts ma) = L := by rw [nxtP_eq hT.a.sm.cont, hf, hall, hL]; omega
      have Hnx := Lib.hid hnx
      have HL := Lib.hid hL
      have Hall := Lib.hid hall
      have Hf := Lib.hid hf
      have Hne := Lib.hid hne
      have HT := Lib.hid hT
      have HMa : Hid (ma.length ≤ 21) := Lib.hid (by have := hT.a.sm.few; rw [prts, List.length_map] at this; omega)
      have HSm : Hid (Sml (prts ma) 20) := Lib.hid (hT.a.sm.mono (by omega))
      have HNx := Lib.hid (slNext_any hT.a.lg.lb hT.a.lg.row (by have := HMa.out; omega) (by omega))
      clear hT ha hf hne hall hnx hL hI hc
      have l1 : IntKind.u64.wrap ((L : Nat) : Int) = (L : Int) := by rw [IntKind.wrap_u64]; omega
      go_upto_region 14 with (go_at_call 15; refine HNx.out.mono ?_; rintro e w5 ⟨rfl, hk5⟩; rw [Hnx.out]; have HT5 := Lib.hid (HT.out.stay hk5); clear hk5)
      go_upto_region 15 with (go_at_call 7; refine (HT5.out.reopen (by omega) (by omega) (by decide) (by decide) nmL_full Hne.out).mono ?_; rintro e w6 ⟨T2, v6, ms6, ps6, c6, rfl, hl6, hp6, hk6⟩; have HG6 := Lib.hid hl6; have HP6 := Lib.hid hp6; have HK6 := Lib.hid hk6; clear hl6 hp6 hk6)
      have HNx6 := Lib.hid (slNext_any HG6.out.lb HG6.out.row (by have := congrArg List.length HP6.out; have := HMa.out; simp only [prts, List.length_map] at *; omega) (by rw [HP6.out, Hnx.out]; omega))
      go_upto_region 17 with (go_at_call 15; refine HNx6.out.mono ?_; rintro e w7 ⟨rfl, hk7⟩; rw [HP6.out, Hnx.out]; have HK7 := Lib.hid hk7; clear hk7)
      have HM6 : Hid (ms6.length ≤ 21) := Lib.hid (by have := congrArg List.length HP6.out; have := HMa.out; simp only [prts, List.length_map] at *; omega)
      have HG7 := Lib.hid (HG6.out.stay HK7.out)
      have HFr : Hid (Calls Tryd.prog 11 #[.pointer (some ⟨T2, 0, none⟩), .int .u64 0] w7 (FromPost w7 0 ms6)) := Lib.hid (slFrom_some w7 T2 F 0 _ v6 ms6 false HG7.out.lb HG7.out.row (by have := HM6.out; omega))
      have HK67 := Lib.hid (HK6.out.trans' HK7.out)
      obtain ⟨Bo, hBo⟩ : ∃ Bo, Bo = w7.heap.size := ⟨_, rfl⟩
      obtain ⟨Bp, hBp⟩ : ∃ Bp, Bp = Bo + 1 := ⟨_, rfl⟩
      have HBo := Lib.hid hBo
      have HBp := Lib.hid hBp
      clear hBo hBp
      have hxs : recsFr 0 (ms6.map PM.prt) = recsL 0 0 (filt p1 n) := by
        rw [show ms6.map PM.prt = prts ms6 from rfl, HP6.out, recsFr_cont 0 HSm.out.cont, Hf.out, Hall.out]
      have hxl : (recsFr 0 (ms6.map PM.prt)).length = L := by
        rw [hxs, recsL_len]; have := HL.out; omega
      have hmr : ∀ p ∈ ms6, p.rs.length ≤ 1000000 ∧ p.first ≤ 1000000000 ∧ ∀ r ∈ p.rs, r.b.length ≤ 1000000 := fun p hp => by
        have h1 := HSm.out.one (p := p.prt) (by rw [← HP6.out]; exact List.mem_map_of_mem hp)
        have e : p.prt.2.length = p.rs.length := by simp [PM.prt]
        have e2 : p.prt.1 = p.first := rfl
        refine ⟨by omega, by omega, fun r hr => ?_⟩
        have h2 := HSm.out.len p.prt (by rw [← HP6.out]; exact List.mem_map_of_mem hp) r.b (by simp only [PM.prt]; exact List.mem_map_of_mem hr)
        omega
      have HXs := Lib.hid hxs
      have HXl := Lib.hid hxl
      have HMr := Lib.hid hmr
      clear hxs hxl hmr
      have HSq : Hid (∀ w8 vf, FromAt w8 Bp Bo 0 vf ms6 → Calls Tryd.prog 12 #[.func (.func 37) #[] #[.pointer (some ⟨Bp, 0, none⟩), .pointer (some ⟨Bo, 0, none⟩)], .int .i64 20] w8 (Seq2Post w8 w8.heap.size (recsFr 0 (ms6.map PM.prt)))) := Lib.hid fun w8 vf hF =>
        seq2_any 20 w8.heap.size w8 _ _ _ (slFrom1_iter Bp Bo 0 vf ms6 w8 hF (by have := HM6.out; omega) HMr.out) (fun q hq => hF.lt q hq) (by have := HXl.out; omega) (by omega) (Nat.le_refl _)
      go_upto_region 18 with (first
        | (go_at_call 11; refine HFr.out.mono ?_; rintro e w8 ⟨vf, rfl, hb1, hb2, hrow, hk8⟩; rw [← HBo.out, ← HBp.out]; have HF8 : Hid (FromAt w8 Bp Bo 0 vf ms6) := Lib.hid ⟨by have := HBp.out; have := HBo.out; subst_vars; exact hb2, by have := HBo.out; subst_vars; exact hb1, own_low hrow (Nat.zero_le _), (HG7.out.stay hk8).bbs⟩; have HK8 := Lib.hid (HK67.out.trans' hk8); clear hb1 hb2 hrow hk8)
        | (go_at_call 12; refine (HSq.out _ _ HF8.out).mono ?_; rintro e w9 ⟨va9, vb9, ys, rfl, hys, h1, h2, h3, hk9⟩; rw [HXl.out] at h1 h2; obtain ⟨Ao, co, rfl⟩ := own_slice h1; obtain ⟨Ad, cd, rfl⟩ := own_slice h2; have HYs := Lib.hid hys; have HO1 := Lib.hid h1; have HO2 := Lib.hid h2; have HO3 := Lib.hid h3; have HK9 := Lib.hid (HK8.out.trans' hk9); clear hys h1 h2 h3 hk9))
      go_upto_region 20 with fail
      go_wp2_with fail
      go_loopw [17, 18] (fun kk i wx => ∃ i0 q : Nat, i = .int .i64 (i0 : Nat) ∧ kk = .int .i64 (q : Nat) ∧ q ≤ 20 ∧ i0 ≤ n ∧ Hid (q = (filt p1 i0).length) ∧ Hid (Kept (fun _ => False) w9 wx)) (fun _ i _ => n - (intOf i).toNat)
      case' atStart => exact ⟨0, 0, rfl, rfl, by omega, by omega, Lib.hid rfl, Lib.hid (Kept.refl _ _)⟩
      obtain ⟨i0, q, rfl, rfl, hq20, hi0, hqf, hK10⟩ := hrel
      by_cases hin : i0 < n
      · have q1 : (i0 : Int) < (n : Int) := by omega
        obtain ⟨r, hr⟩ : ∃ r, p1[i0]? = some r := ⟨_, List.getElem?_eq_getElem (by have := Hn.out; omega)⟩
        obtain ⟨ad, rfl, hcr, hbs, -⟩ := H.out i0 r hr
        have c3 := (HK9.out.trans' hK10.out).cell hcr (by simp)
        unfold BV.val at c3
        by_cases hlen : r.b.length < 500
        · have q2 : (r.b.length : Int) < 500 := by omega
          have hat := filt_at hr hlen (m := n) (by have := Hn.out; omega)
          rw [← hqf.out] at hat
          have hqL : q < L := by
            have := (List.getElem?_eq_some_iff.1 hat).1
            have := HL.out
            omega
          have hxq : (recsFr 0 (ms6.map PM.prt))[q]? = some (r.b, q) := by
            rw [HXs.out, recsL_get, show q + (0 - 0) = q by omega, hat]
            simp
          obtain ⟨x, hx⟩ : ∃ x, ys[q]? = some x := ⟨_, List.getElem?_eq_getElem (by have h9 := congrArg List.length HYs.out; rw [List.length_map, HXl.out] at h9; omega)⟩
          have hx1 : x.1 = (r.b, q) := by
            have h9 := congrArg (fun l => l[q]?) HYs.out
            simp only [List.getElem?_map, hx, Option.map_some, hxq, Option.some.injEq] at h9
            exact h9
          obtain ⟨Gd, cd', e2, -, hcd, hcell2⟩ := own_cell HO2.out (by omega)
          simp only [Value.slice.injEq, true_and] at e2
          obtain ⟨rfl, rfl⟩ := e2
          have hown := HO3.out x (List.mem_of_getElem? hx)
          rw [hx1] at hown
          obtain ⟨Ax, cx, hxv, -, hbx, hAx, -⟩ := Bs.of_own hown
          have c2 := hK10.out.cell (hcell2 q x.2 (by rw [List.getElem?_map, hx]; rfl)) (by simp)
          rw [hxv] at c2
          have HBy : Hid (∀ a, Calls Tryd.prog 13 #[.slice Ax r.b.length cx, .slice r.A r.b.length r.c] (wr.drewN a) fun e w' => e = .returned (.bool true) ∧ ∃ m, w' = (wr.drewN a).drewN m) := Lib.hid fun a => by
            have hka : Kept (fun _ => False) wr (wr.drewN a) := (Kept.refl _ wr).drewN a
            refine (bytes_any (wr.drewN a) Ax r.A r.b.length cx r.b.length r.c r.b r.b rfl rfl ((hbx.kept hK10.out (by simp)).kept hka (by simp)) ((hbs.kept (HK9.out.trans' hK10.out) (by simp)).kept hka (by simp))).mono ?_
            rintro e w' ⟨rfl, rfl⟩
            exact ⟨by simp, 0, rfl⟩
          have q3 : ¬ (L : Int) ≤ (q : Int) := by omega
          have q4 : (q : Int) < (L : Int) := by omega
          have HFy := Lib.hid (filt_yes hr hlen)
          clear hcell2 hown hbx hxv hx hx1 hxq hr hbs hcr hAx hat
          go_upto_region 25 with fail
          go_quiet ((go_at_call 13; exact Calls.quiet_of (HBy.out _)))
          go_wp2
          go_roundw
          case rel => exact ⟨i0 + 1, q + 1, by go_num, by go_num, by omega, by omega, Lib.hid (by rw [HFy.out, List.length_append, ← hqf.out]; rfl), Lib.hid (hK10.out.trans' ((Kept.refl _ _).drewN _))⟩
          case measure => simp [intOf]; omega
        · have q2 : ¬ (r.b.length : Int) < 500 := by omega
          have HFn := Lib.hid (filt_no hr hlen)
          clear hr hbs hcr
          go_wp2_with fail
          go_roundw
          case rel => exact ⟨i0 + 1, q, by go_num, rfl, by omega, by omega, Lib.hid (by rw [HFn.out]; exact hqf.out), hK10⟩
          case measure => simp [intOf]; omega
      · have q1 : ¬ (i0 : Int) < (n : Int) := by omega
        go_wp2_with fail
        go_ret
        exact ⟨rfl, HK9.out.trans' hK10.out⟩
set_option maxRecDepth 100000 in
set_option maxHeartbeats 40000000 in
theorem seglogApart_many (w : World) (A A' : Option Addr) (n c n' c' : Nat) (hn9 : (n : Int) ≤ 9223372036854775807) (hn9' : (n' : Int) ≤ 9223372036854775807) (h20 : 20 < n ∨ 20 < n') :
    Calls Tryd.prog 4 #[.slice A n c, .slice A' n' c'] w fun e w' => e = .returned (.bool true) ∧ Kept (fun _ => False) w w' := by
  have HN := Lib.hid (new_any w 1048576)
  have HB : Hid (boundI 1048576 = 1048576) := Lib.hid (by decide)
  have g20 : (20 : Int) < (n : Int) ∨ (¬ (20 : Int) < (n : Int) ∧ (20 : Int) < (n' : Int)) := by omega
  clear h20
  go_enter Tryd.func4, Tryd.ntmps4
  go_upto_region 3 with (first
    | (go_at_call 8; refine HN.out.mono ?_; rintro e w1 ⟨F, M, rfl, hF, hk, hF1, hM1⟩; rw [HB.out] at hF; have HF := Lib.hid hF; have HK1 := Lib.hid hk; have HF1 := Lib.hid hF1; have HM1 := Lib.hid hM1; clear hF hk hF1 hM1)
    | (go_at_call 7; refine (slOpen_first (nm := ⟨#[97]⟩) HF.out HK1.out HF1.out HM1.out (by decide) nmL_full).mono ?_; rintro e w2 ⟨Ta, va0, ps2, c2, rfl, hl⟩; have HL2 := Lib.hid hl; clear hl))
  go_upto_region 4 with (go_at_call 7; refine (TW.first HL2.out nmAB (by decide) nmL_fullB (by decide)).mono ?_; rintro e w3 ⟨Tb, ps3, c3, va3, sa3, vb3, rfl, hl3⟩; have HW3 := Lib.hid hl3.kw; clear hl3)
  rcases g20 with g20 | ⟨g20, g20'⟩
  all_goals
    go_upto_region 5 with (go_at_call 9; refine (awake21_any _).mono ?_; rintro e w4 ⟨rfl, hk4⟩; have HK4 := Lib.hid (HW3.out.trans' hk4); clear hk4)
    go_wp2_with (go_at_call 9; refine (awake21_any _).mono ?_; rintro e w5 ⟨rfl, hk5⟩; have HK5 := Lib.hid (HK4.out.trans' hk5); clear hk5)
    go_ret
    exact ⟨rfl, HK5.out⟩
theorem seglogApart_any (w : World) (A A' : Option Addr) (n c n' c' : Nat) (p1 p2 : List BV) (h : InBs w A p1) (h' : InBs w A' p2) (hn : n = p1.length) (hn' : n' = p2.length) (hn9 : (n : Int) ≤ 9223372036854775807) (hn9' : (n' : Int) ≤ 9223372036854775807) :
    Calls Tryd.prog 4 #[.slice A n c, .slice A' n' c'] w fun e w' => e = .returned (.bool true) ∧ Kept (fun _ => False) w w' := by
  rcases Nat.lt_or_ge 20 n with h4 | h4
  · exact seglogApart_many w A A' n c n' c' hn9 hn9' (.inl h4)
  · rcases Nat.lt_or_ge 20 n' with h5 | h5
    · exact seglogApart_many w A A' n c n' c' hn9 hn9' (.inr h5)
    · exact seglogApart_few w A A' n c n' c' p1 p2 h h' hn hn' h4 h5
end Go.Proofs.YtefpigakhhfcaaaDoor
end
