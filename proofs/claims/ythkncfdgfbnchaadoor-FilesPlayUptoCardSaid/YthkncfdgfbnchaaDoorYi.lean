import Derived.Test.YthkncfdgfbnchaaDoorYh
import Derived.Test.YthkncfdgfbnchaaDoorA1
import Derived.Test.YthkncfdgfbnchaaDoorT1
import Derived.Test.YthkncfdgfbnchaaDoorT2
/-! FilesPlay: both files beside each other; each call of both: Sync, Remove. -/
section
set_option linter.unusedVariables false
set_option linter.unusedSimpArgs false
namespace Go.Proofs.YthkncfdgfbnchaaDoor
open Go.RowKit Go.Sort

abbrev Core := ByteArray × List UInt8 × Nat
/-- What the reference's list has to be: alike, and within bounds. -/
structure Fit (cs : List Core) (rs : List RV) (n : Nat) : Prop where
  perm : cs.Perm (rs.map RV.core)
  sorted : SortedR rs
  names : ∀ r ∈ rs, r.name.size ≤ 100
  used : usedR rs ≤ 4194304
  few : rs.length ≤ n
/-- The files and the reference's, each in its own blocks. -/
structure Both (w W : World) (F M R : Nat) (v : Value) (ps : List PF) (rs : List RV) (clock : Nat) (lim arm : Int) (dn : Bool) (lim2 arm2 : Int) (dn2 : Bool) : Prop where
  f : FilesAt W F M ps clock lim arm dn
  r : RefAt W R v rs lim2 arm2 dn2
  fnew : ∀ k ∈ foot F M ps, w.heap.size ≤ k
  rnew : ∀ k ∈ rfoot R v rs, w.heap.size ≤ k
  apart : ∀ k ∈ foot F M ps, k ∉ rfoot R v rs
  kept : Kept (fun _ => False) w W
section
variable {w W W' : World} {F M R clock clock' : Nat} {v v' : Value} {ps ps' : List PF} {rs rs' : List RV} {lim arm lim2 arm2 lim' arm' : Int} {dn dn2 dn' : Bool}
theorem Both.goF (h : Both w W F M R v ps rs clock lim arm dn lim2 arm2 dn2) (k : Went W F M ps ps' clock' lim' arm' dn' W') : Both w W' F M R v ps' rs clock' lim' arm' dn' lim2 arm2 dn2 := by
  have hlt := h.r.lt
  refine ⟨k.at_, h.r.kept k.kept fun i hi hm => h.apart i hm hi, fun i hi => (k.feet i hi).elim (h.fnew i) fun hi => Nat.le_trans h.kept.size hi, h.rnew, fun i hi hm => ?_, h.kept.trans k.kept fun i hi hm => by have := h.fnew i hm; omega⟩
  rcases k.feet i hi with h1 | h1
  · exact h.apart i h1 hm
  · have := hlt i hm; omega
theorem Both.goR (h : Both w W F M R v ps rs clock lim arm dn lim2 arm2 dn2) (k : RWent W W' R v rs v' rs' lim' arm' dn') : Both w W' F M R v' ps rs' clock lim arm dn lim' arm' dn' := by
  have hlt := h.f.lt
  refine ⟨h.f.kept k.kept fun i hi hm => h.apart i hi hm, k.at_, h.fnew, fun i hi => (k.feet i hi).elim (h.rnew i) fun hi => Nat.le_trans h.kept.size hi, fun i hi hm => ?_, h.kept.trans k.kept fun i hi hm => by have := h.rnew i hm; omega⟩
  rcases k.feet i hm with h1 | h1
  · exact h.apart i hi h1
  · have := hlt i hi; omega
theorem Both.stay (h : Both w W F M R v ps rs clock lim arm dn lim2 arm2 dn2) (k : Kept (fun _ => False) W W') : Both w W' F M R v ps rs clock lim arm dn lim2 arm2 dn2 :=
  ⟨h.f.kept k (by simp), h.r.kept k (by simp), h.fnew, h.rnew, h.apart, h.kept.trans' k⟩
/-- One call of both: what the files answer, and leave; the reference answers the same, and leaves what fits. -/
def Pair (fF fR : Nat) (args : List Value) (W : World) (F M R : Nat) (v : Value) (ps : List PF) (rs : List RV) (lim arm : Int) (dn : Bool) (n : Nat) : Prop :=
  ∃ er cs arm' dn', (Calls Tryd.prog fF (.pointer (some ⟨F, 0, none⟩) :: args).toArray W fun e W1 => e = .returned (.int .i64 er) ∧ ∃ ps' clock', Went W F M ps ps' clock' lim arm' dn' W1 ∧ ps'.map PF.core = cs) ∧
    ∀ W1, RefAt W1 R v rs lim arm dn → Calls Tryd.prog fR (.pointer (some ⟨R, 0, none⟩) :: args).toArray W1 fun e W2 => e = .returned (.int .i64 er) ∧ ∃ v' rs', RWent W1 W2 R v rs v' rs' lim arm' dn' ∧ Fit cs rs' n
theorem Fit.alike {n : Nat} (h : Fit (ps.map PF.core) rs n) : Alike ps rs := ⟨h.perm, h.sorted⟩
theorem Went.refl (h : FilesAt W F M ps clock lim arm dn) : Went W F M ps ps clock lim arm dn W := ⟨h, Kept.refl _ _, fun k hk => .inl hk⟩
theorem Went.of_kin (h : FilesAt W F M ps clock lim arm dn) (hk : Kept (fun _ => False) W W') : Went W F M ps ps clock lim arm dn W' := ⟨h.kept hk (by simp), hk.mono fun _ _ h => h.elim, fun k hk => .inl hk⟩
theorem RWent.of_kin (h : RefAt W R v rs lim arm dn) (hk : Kept (fun _ => False) W W') : RWent W W' R v rs v rs lim arm dn := ⟨h.kept hk (by simp), hk.mono fun _ _ h => h.elim, fun k hk => .inl hk⟩
/-- Both refuse. -/
theorem pair_no {fF fR n : Nat} {args : List Value} (h : FilesAt W F M ps clock lim arm dn) (hf : Fit (ps.map PF.core) rs n) (er : Int)
    (h1 : Calls Tryd.prog fF (.pointer (some ⟨F, 0, none⟩) :: args).toArray W fun e W1 => e = .returned (.int .i64 er) ∧ Kept (fun _ => False) W W1)
    (h2 : ∀ W1, RefAt W1 R v rs lim arm dn → Calls Tryd.prog fR (.pointer (some ⟨R, 0, none⟩) :: args).toArray W1 (RNo er W1)) : Pair fF fR args W F M R v ps rs lim arm dn n :=
  ⟨er, ps.map PF.core, arm, dn, h1.mono fun e W1 ⟨he, hk⟩ => ⟨he, ps, clock, Went.of_kin h hk, rfl⟩, fun W1 hR => (h2 W1 hR).mono fun e W2 ⟨he, hk⟩ => ⟨he, v, rs, RWent.of_kin hR hk, hf⟩⟩
theorem sync_pair (s : ByteArray) (n : Nat) (h : FilesAt W F M ps clock lim arm dn) (hf : Fit (ps.map PF.core) rs n) : Pair 15 52 [.string s] W F M R v ps rs lim arm dn n := by
  cases dn with
  | true =>
    refine pair_no h hf 13 ((sync_no _ s 13 rfl W (Lib.hid (there_down s W F M lim arm h.fb))).mono fun e W1 ⟨he, hw⟩ => ⟨he, by rw [hw]; exact Kept.refl _ _⟩) fun W1 hR => rsync_down s W1 R v rs lim arm hf.sorted hR
  | false =>
    rcases find_name ps s with hno | ⟨l1, p, l2, rfl, rfl⟩
    · refine pair_no h hf 8 ((sync_no _ s 8 rfl W (Lib.hid (there_none s W F M lim arm ps clock h hno))).mono fun e W1 ⟨he, hw⟩ => ⟨he, by rw [hw]; exact Kept.refl _ _⟩) fun W1 hR => rsync_none s W1 R v rs lim arm (hf.alike.none_ hno) hR
    · obtain ⟨r1, ⟨rn, rb, rsf, rv⟩, r2, rfl, hc⟩ := hf.alike.split
      obtain rfl : rn = p.name := congrArg Prod.fst hc
      obtain rfl : rb = p.b := congrArg (fun c => c.2.1) hc
      by_cases ha : arm = 1
      · subst ha
        exact ⟨13, _, _, _, (sync_hit W F M lim l1 l2 p clock h).mono fun e W1 ⟨he, hw⟩ => ⟨he, _, _, hw, rfl⟩, fun W1 hR => by
          have := rsync_hit W1 R v r1 r2 ⟨p.name, p.b, rsf, rv⟩ lim hf.sorted hR
          exact this.mono fun e W2 ⟨he, v', hw⟩ => ⟨he, v', _, hw, hf⟩⟩
      · exact ⟨0, _, _, _, (sync_ok W F M lim arm l1 l2 p clock ha h).mono fun e W1 ⟨he, hw⟩ => ⟨he, _, _, hw, rfl⟩, fun W1 hR => by
          have := rsync_ok W1 R v r1 r2 ⟨p.name, p.b, rsf, rv⟩ lim arm ha hf.sorted hR
          refine this.mono fun e W2 ⟨he, v', hw⟩ => ⟨he, v', _, hw, ?_⟩
          have hal := hf.alike.upd (q := { p with safe := p.b.length }) (x := ⟨p.name, p.b, p.b.length, rv⟩) hc rfl rfl
          exact ⟨hal.perm, hal.sorted, fun q hq => by
            simp only [List.mem_append, List.mem_cons] at hq
            rcases hq with hq | rfl | hq
            · exact hf.names q (by simp [hq])
            · exact hf.names ⟨p.name, p.b, rsf, rv⟩ (by simp)
            · exact hf.names q (by simp [hq]), by have := hf.used; simpa [usedR] using this, by have := hf.few; simpa using this⟩⟩
theorem remove_pair (s : ByteArray) (n : Nat) (h : FilesAt W F M ps clock lim arm dn) (hf : Fit (ps.map PF.core) rs n) : Pair 33 55 [.string s] W F M R v ps rs lim arm dn n := by
  cases dn with
  | true =>
    refine pair_no h hf 13 ((remove_no _ s 13 rfl W (Lib.hid (there_down s W F M lim arm h.fb))).mono fun e W1 ⟨he, hw⟩ => ⟨he, by rw [hw]; exact Kept.refl _ _⟩) fun W1 hR => rremove_down s W1 R v rs lim arm hf.sorted hR
  | false =>
    rcases find_name ps s with hno | ⟨l1, p, l2, rfl, rfl⟩
    · refine pair_no h hf 8 ((remove_no _ s 8 rfl W (Lib.hid (there_none s W F M lim arm ps clock h hno))).mono fun e W1 ⟨he, hw⟩ => ⟨he, by rw [hw]; exact Kept.refl _ _⟩) fun W1 hR => rremove_none s W1 R v rs lim arm (hf.alike.none_ hno) hR
    · obtain ⟨r1, ⟨rn, rb, rsf, rv⟩, r2, rfl, hc⟩ := hf.alike.split
      obtain rfl : rn = p.name := congrArg Prod.fst hc
      have hrm := remove_any W F M lim arm l1 l2 p clock h
      by_cases ha : arm = 1
      · subst ha
        rw [if_pos rfl] at hrm
        exact ⟨13, _, _, _, hrm.mono fun e W1 ⟨he, hw⟩ => ⟨he, _, _, hw, rfl⟩, fun W1 hR => by
          have := rremove_hit W1 R v r1 r2 ⟨p.name, rb, rsf, rv⟩ lim hf.sorted hR
          exact this.mono fun e W2 ⟨he, v', hw⟩ => ⟨he, v', _, hw, hf⟩⟩
      · rw [if_neg ha] at hrm
        exact ⟨0, _, _, _, hrm.mono fun e W1 ⟨he, hw⟩ => ⟨he, _, _, hw, rfl⟩, fun W1 hR => by
          have := rremove_ok W1 R v r1 r2 ⟨p.name, rb, rsf, rv⟩ lim arm ha hf.sorted hR
          refine this.mono fun e W2 ⟨he, v', hw⟩ => ⟨he, v', _, hw, ?_⟩
          have hal := hf.alike.gone hc
          exact ⟨hal.perm, hal.sorted, fun q hq => hf.names q (by rcases List.mem_append.1 hq with h | h <;> simp [h]), by have := hf.used; simp [usedR] at this ⊢; omega, by have := hf.few; simp at this ⊢; omega⟩⟩
end
end Go.Proofs.YthkncfdgfbnchaaDoor
end

/-! FilesPlay: each call of both: Truncate, Rename. -/
section
set_option linter.unusedVariables false
set_option linter.unusedSimpArgs false
namespace Go.Proofs.YthkncfdgfbnchaaDoor
open Go.RowKit Go.Sort

section
variable {w W W' : World} {F M R clock clock' : Nat} {v v' : Value} {ps ps' : List PF} {rs rs' : List RV} {lim arm lim2 arm2 lim' arm' : Int} {dn dn2 dn' : Bool}
theorem fit_upd {l1 l2 : List PF} {p q : PF} {r1 r2 : List RV} {r x : RV} {n : Nat} (hf : Fit ((l1 ++ p :: l2).map PF.core) (r1 ++ r :: r2) n) (hc : r.core = p.core) (e2 : x.core = q.core) (en : x.name = r.name) (hu : usedR (r1 ++ x :: r2) ≤ 4194304) : Fit ((l1 ++ q :: l2).map PF.core) (r1 ++ x :: r2) n := by
  have hal := hf.alike.upd hc e2 en
  refine ⟨hal.perm, hal.sorted, fun y hy => ?_, hu, by have := hf.few; simpa using this⟩
  simp only [List.mem_append, List.mem_cons] at hy
  rcases hy with hy | rfl | hy
  · exact hf.names y (by simp [hy])
  · rw [en]; exact hf.names r (by simp)
  · exact hf.names y (by simp [hy])
theorem trunc_pair (s : ByteArray) (z : Int) (n : Nat) (h : FilesAt W F M ps clock lim arm dn) (hf : Fit (ps.map PF.core) rs n) : Pair 13 53 [.string s, .int .i64 z] W F M R v ps rs lim arm dn n := by
  cases dn with
  | true =>
    refine pair_no h hf 13 ((trunc_no _ s z 13 rfl W (Lib.hid (there_down s W F M lim arm h.fb))).mono fun e W1 ⟨he, hw⟩ => ⟨he, by rw [hw]; exact Kept.refl _ _⟩) fun W1 hR => rtrunc_down s z W1 R v rs lim arm hf.sorted hR
  | false =>
    rcases find_name ps s with hno | ⟨l1, p, l2, rfl, rfl⟩
    · refine pair_no h hf 8 ((trunc_no _ s z 8 rfl W (Lib.hid (there_none s W F M lim arm ps clock h hno))).mono fun e W1 ⟨he, hw⟩ => ⟨he, by rw [hw]; exact Kept.refl _ _⟩) fun W1 hR => rtrunc_none s z W1 R v rs lim arm (hf.alike.none_ hno) hR
    · obtain ⟨r1, ⟨rn, rb, rsf, rv⟩, r2, rfl, hc⟩ := hf.alike.split
      obtain rfl : rn = p.name := congrArg Prod.fst hc
      obtain rfl : rb = p.b := congrArg (fun c => c.2.1) hc
      obtain rfl : rsf = p.safe := congrArg (fun c => c.2.2) hc
      by_cases hneg : z < 0
      · exact pair_no h hf 1 ((trunc_neg W F M lim arm l1 l2 p clock z hneg h).mono fun e W1 ⟨he, hw⟩ => ⟨he, by rw [hw]; exact Kept.refl _ _⟩) fun W1 hR => rtrunc_bad z W1 R v r1 r2 ⟨p.name, p.b, p.safe, rv⟩ lim arm (.inl hneg) hf.sorted hR
      · obtain ⟨m, rfl⟩ : ∃ m : Nat, z = m := ⟨z.toNat, by omega⟩
        by_cases hfar : p.b.length < m
        · exact pair_no h hf 1 ((trunc_far W F M lim arm l1 l2 p clock m hfar h).mono fun e W1 ⟨he, hw⟩ => ⟨he, by rw [hw]; exact Kept.refl _ _⟩) fun W1 hR => rtrunc_bad m W1 R v r1 r2 ⟨p.name, p.b, p.safe, rv⟩ lim arm (.inr (by show (p.b.length : Int) < m; omega)) hf.sorted hR
        · have hle : m ≤ p.b.length := by omega
          by_cases ha : arm = 1
          · subst ha
            exact ⟨13, _, _, _, (trunc_hit W F M lim l1 l2 p clock m hle h).mono fun e W1 ⟨he, hw⟩ => ⟨he, _, _, hw, rfl⟩, fun W1 hR => (rtrunc_hit m W1 R v r1 r2 ⟨p.name, p.b, p.safe, rv⟩ lim hle hf.sorted hR).mono fun e W2 ⟨he, v', hw⟩ => ⟨he, v', _, hw, hf⟩⟩
          · have hT : Calls Tryd.prog 13 #[.pointer (some ⟨F, 0, none⟩), .string p.name, .int .i64 m] W fun e w' => ∃ v, Gone 0 W F M (l1 ++ p :: l2) (l1 ++ { p with b := p.b.take m, safe := min p.safe m, val := v } :: l2) clock lim (decA arm) false e w' := by
              by_cases hlt : m < p.safe
              · exact trunc_lt W F M lim arm l1 l2 p clock m hle hlt ha h
              · exact trunc_ge W F M lim arm l1 l2 p clock m hle hlt ha h
            refine ⟨0, (l1 ++ { p with b := p.b.take m, safe := min p.safe m } :: l2).map PF.core, _, _, hT.mono fun e W1 ⟨v9, he, hw⟩ => ⟨he, _, _, hw, by simp [PF.core]⟩, fun W1 hR => ?_⟩
            refine (rtrunc_ok m W1 R v r1 r2 ⟨p.name, p.b, p.safe, rv⟩ lim arm hle ha hf.sorted hR).mono fun e W2 ⟨u, he, v', hw⟩ => ⟨he, v', _, hw, ?_⟩
            refine fit_upd (r := ⟨p.name, p.b, p.safe, rv⟩) hf hc (by simp [RV.core, PF.core, Nat.min_comm]) rfl ?_
            have := hf.used
            simp [usedR] at this ⊢
            omega
theorem fullB_size {s : ByteArray} (h : fullB s = true) : s.size ≤ 100 := by
  unfold fullB at h
  simp only [Bool.and_eq_true, decide_eq_true_eq] at h
  exact h.1
theorem usedR_insR (rs : List RV) (x : RV) : usedR (insR rs x) = x.b.length + usedR rs := by
  have h := sum_perm ((insR_perm rs x).map fun c => c.2.1.length)
  rw [List.map_map] at h
  have e : usedR (insR rs x) = ((insR rs x).map ((fun c : Core => c.2.1.length) ∘ RV.core)).sum := rfl
  rw [e, h]
  simp only [usedR, List.map_cons, List.sum_cons, List.map_map]
  rfl
theorem insR_len (rs : List RV) (x : RV) : (insR rs x).length = rs.length + 1 := by
  have := (insR_perm rs x).length_eq
  simpa using this
theorem fit_ins {qs : List PF} {cs : List Core} {x : RV} {n : Nat} (hs : SortedR rs) (hno : ∀ r ∈ rs, r.name ≠ x.name) (hp : cs.Perm (x.core :: rs.map RV.core)) (hnm : ∀ r ∈ rs, r.name.size ≤ 100) (hx : x.name.size ≤ 100) (hu : x.b.length + usedR rs ≤ 4194304) (hl : rs.length + 1 ≤ n) : Fit cs (insR rs x) n :=
  ⟨hp.trans (insR_perm rs x).symm, sorted_ins hs hno, fun y hy => (mem_insR hy).elim (fun e => by rw [e]; exact hx) (hnm y), by rw [usedR_insR]; exact hu, by rw [insR_len]; exact hl⟩
theorem rename_pair (s t : ByteArray) (n : Nat) (ht : t.size ≤ 140737488355328) (h : FilesAt W F M ps clock lim arm dn) (hf : Fit (ps.map PF.core) rs n) : Pair 22 54 [.string s, .string t] W F M R v ps rs lim arm dn n := by
  cases dn with
  | true =>
    refine pair_no h hf 13 ((rename_no _ s t 13 rfl W (Lib.hid (there_down s W F M lim arm h.fb))).mono fun e W1 ⟨he, hw⟩ => ⟨he, by rw [hw]; exact Kept.refl _ _⟩) fun W1 hR => rren_down s t W1 R v rs lim arm hf.sorted hR
  | false =>
    rcases find_name ps s with hno | ⟨l1, p, l2, rfl, rfl⟩
    · refine pair_no h hf 8 ((rename_no _ s t 8 rfl W (Lib.hid (there_none s W F M lim arm ps clock h hno))).mono fun e W1 ⟨he, hw⟩ => ⟨he, by rw [hw]; exact Kept.refl _ _⟩) fun W1 hR => rren_none s t W1 R v rs lim arm (hf.alike.none_ hno) hR
    · obtain ⟨r1, ⟨rn, rb, rsf, rv⟩, r2, rfl, hc⟩ := hf.alike.split
      obtain rfl : rn = p.name := congrArg Prod.fst hc
      obtain rfl : rb = p.b := congrArg (fun c => c.2.1) hc
      obtain rfl : rsf = p.safe := congrArg (fun c => c.2.2) hc
      have hsub : SortedR (r1 ++ r2) := hf.sorted.sub
      have hnmS : ∀ q ∈ r1 ++ r2, q.name.size ≤ 100 := fun q hq => hf.names q (by rcases List.mem_append.1 hq with h | h <;> simp [h])
      have huS : p.b.length + usedR (r1 ++ r2) ≤ 4194304 := by have := hf.used; simp [usedR] at this ⊢; omega
      have hlS : (r1 ++ r2).length + 1 ≤ n := by have := hf.few; simp at this ⊢; omega
      have hpS := perm_mid hf.perm hc
      cases hft : fullB t with
      | false => exact pair_no h hf 6 (rename_bad W F M lim arm l1 l2 p t clock ht hft h) fun W1 hR => rren_bad t W1 R v r1 r2 ⟨p.name, p.b, p.safe, rv⟩ lim arm ht hft hf.sorted hR
      | true =>
        by_cases ha : arm = 1
        · subst ha
          exact ⟨13, _, _, _, (rename_hit W F M lim l1 l2 p t clock ht hft h).mono fun e W1 ⟨he, hw⟩ => ⟨he, _, _, hw, rfl⟩, fun W1 hR => (rren_hit t W1 R v r1 r2 ⟨p.name, p.b, p.safe, rv⟩ lim ht hft hf.sorted hR).mono fun e W2 ⟨he, v', hw⟩ => ⟨he, v', _, hw, hf⟩⟩
        · rcases find_name (l1 ++ l2) t with hno | ⟨m1, q, m2, hm, rfl⟩
          · refine ⟨0, (l1 ++ l2 ++ [setN p t clock]).map PF.core, _, _, (rename_new W F M lim arm l1 l2 p t clock ha ht hft hno h).mono fun e W1 ⟨he, hw⟩ => ⟨he, _, _, hw, rfl⟩, fun W1 hR => ?_⟩
            by_cases he : p.name = t
            · subst he
              refine (rren_same W1 R v r1 r2 ⟨p.name, p.b, p.safe, rv⟩ lim arm ha ht hft hf.sorted hR).mono fun e W2 ⟨he, v', hw⟩ => ⟨he, v', _, hw, ?_⟩
              refine ⟨?_, hf.sorted, hf.names, hf.used, hf.few⟩
              refine List.Perm.trans ?_ hf.perm
              simp only [List.map_append, List.map_cons, List.map_nil]
              exact (List.perm_append_singleton _ _).trans List.perm_middle.symm
            · have hno2 : ∀ y ∈ r1 ++ r2, y.name ≠ t := (⟨hpS, hsub⟩ : Alike (l1 ++ l2) (r1 ++ r2)).none_ hno
              refine (rren_new t W1 R v r1 r2 ⟨p.name, p.b, p.safe, rv⟩ lim arm ha ht hft he hno2 hf.sorted hR).mono fun e W2 ⟨he, v', hw⟩ => ⟨he, v', _, hw, ?_⟩
              refine fit_ins (qs := []) hsub hno2 ?_ hnmS (fullB_size hft) huS hlS
              rw [List.map_append, List.map_singleton]
              exact (List.perm_append_singleton _ _).trans (hpS.cons _)
          · have halS : Alike (m1 ++ q :: m2) (r1 ++ r2) := ⟨by rw [← hm]; exact hpS, hsub⟩
            have hneq : p.name ≠ q.name := by
              have := names_ne h.names
              have hq : q ∈ l1 ++ l2 := by rw [hm]; simp
              intro e
              rcases List.mem_append.1 hq with hq | hq
              · exact this.1 q hq e.symm
              · exact this.2 q hq e.symm
            refine ⟨0, (m1 ++ setN p q.name q.born :: m2).map PF.core, _, _, (rename_over W F M lim arm l1 l2 m1 m2 p q clock ha ht hft hm h).mono fun e W1 ⟨he, hw⟩ => ⟨he, _, _, hw, rfl⟩, fun W1 hR => ?_⟩
            obtain ⟨p1, pr, p2, hpe, hpc⟩ := halS.split
            have hpn : pr.name = q.name := congrArg Prod.fst hpc
            have hsp : SortedR (p1 ++ pr :: p2) := by rw [← hpe]; exact hsub
            have hsubm : ∀ y ∈ p1 ++ p2, y ∈ r1 ++ r2 := fun y hy => by rw [hpe]; rcases List.mem_append.1 hy with h | h <;> simp [h]
            refine (rren_over q.name W1 R v r1 r2 p1 p2 ⟨p.name, p.b, p.safe, rv⟩ pr lim arm ha ht hft hneq hpe hpn hf.sorted hR).mono fun e W2 ⟨he, v', hw⟩ => ⟨he, v', _, hw, ?_⟩
            have hno2 : ∀ y ∈ p1 ++ p2, y.name ≠ q.name := fun y hy => by rw [← hpn]; exact hsp.nodup y hy
            refine fit_ins (qs := []) hsp.sub hno2 ?_ (fun y hy => hnmS y (hsubm y hy)) (fullB_size hft) ?_ ?_
            · have h9 := perm_mid (l1 := m1) (l2 := m2) (p := q) (by rw [← hpe]; exact halS.perm) hpc
              simp only [List.map_append, List.map_cons] at h9 ⊢
              exact List.perm_middle.trans (h9.cons _)
            · have h1 := congrArg usedR hpe
              simp [usedR] at h1 huS ⊢
              omega
            · have h1 := congrArg List.length hpe
              simp at h1 hlS ⊢
              omega
end
end Go.Proofs.YthkncfdgfbnchaaDoor
end

/-! FilesPlay: each call of both: Append, Read, Limit, Arm, Crash, Start. -/
section
set_option linter.unusedVariables false
set_option linter.unusedSimpArgs false
namespace Go.Proofs.YthkncfdgfbnchaaDoor
open Go.RowKit Go.Sort

section
variable {w W W' : World} {F M R clock clock' : Nat} {v v' : Value} {ps ps' : List PF} {rs rs' : List RV} {lim arm lim2 arm2 lim' arm' : Int} {dn dn2 dn' : Bool}
theorem Fit.more {cs : List Core} {n m : Nat} (h : Fit cs rs n) (hm : n ≤ m) : Fit cs rs m := ⟨h.perm, h.sorted, h.names, h.used, Nat.le_trans h.few hm⟩
/-- Append of the same bytes to both. -/
theorem append_pair (s : ByteArray) (A1 A2 : Option Addr) (n c1 c2 : Nat) (xs : List UInt8) (nb : Nat) (hs : s.size ≤ 140737488355328) (hn : n = xs.length) (hl : n ≤ 5000) (hnb : nb + 1 ≤ 1000) (h : FilesAt W F M ps clock lim arm dn) (hf : Fit (ps.map PF.core) rs nb)
    (hx : Bs W A1 xs) (hA : A1 = none → c1 = 0) (hM : ∀ ad, A1 = some ad → xs = [] ∨ ad.block ≠ M) (hA2 : A2 = none → c2 = 0) (hR2 : ∀ ad, A2 = some ad → xs = [] ∨ ad.block ≠ R) :
    ∃ er cs arm' dn', ((∀ c ∈ cs, c.1.size ≤ 1000000) ∧ cs.length ≤ 1000000) ∧ (Calls Tryd.prog 12 #[.pointer (some ⟨F, 0, none⟩), .string s, .slice A1 n c1] W fun e W1 => e = .returned (.int .i64 er) ∧ ∃ ps' clock', Went W F M ps ps' clock' lim arm' dn' W1 ∧ ps'.map PF.core = cs) ∧
    ∀ W1, RefAt W1 R v rs lim arm dn → Bs W1 A2 xs → Calls Tryd.prog 62 #[.pointer (some ⟨R, 0, none⟩), .string s, .slice A2 n c2] W1 fun e W2 => e = .returned (.int .i64 er) ∧ ∃ v' rs', RWent W1 W2 R v rs v' rs' lim arm' dn' ∧ Fit cs rs' (nb + 1) := by
  have hnm : ∀ c ∈ ps.map PF.core, c.1.size ≤ 1000000 := by
    intro c hc
    obtain ⟨p, hp, rfl⟩ := List.mem_map.1 hc
    have : p.core ∈ rs.map RV.core := hf.perm.mem_iff.1 (List.mem_map_of_mem hp)
    obtain ⟨r, hr, he⟩ := List.mem_map.1 this
    have h9 := hf.names r hr
    have h8 : r.name = p.core.1 := congrArg Prod.fst he
    rw [← h8]; omega
  have hln : (ps.map PF.core).length ≤ 1000 := by have := hf.perm.length_eq; have := hf.few; simp at *; omega
  have no : ∀ (er : Int), (Calls Tryd.prog 12 #[.pointer (some ⟨F, 0, none⟩), .string s, .slice A1 n c1] W fun e W1 => e = .returned (.int .i64 er) ∧ Kept (fun _ => False) W W1) →
      (∀ W1, RefAt W1 R v rs lim arm dn → Calls Tryd.prog 62 #[.pointer (some ⟨R, 0, none⟩), .string s, .slice A2 n c2] W1 (RNo er W1)) → ∃ er cs arm' dn', ((∀ c ∈ cs, c.1.size ≤ 1000000) ∧ cs.length ≤ 1000000) ∧ (Calls Tryd.prog 12 #[.pointer (some ⟨F, 0, none⟩), .string s, .slice A1 n c1] W fun e W1 => e = .returned (.int .i64 er) ∧ ∃ ps' clock', Went W F M ps ps' clock' lim arm' dn' W1 ∧ ps'.map PF.core = cs) ∧
    ∀ W1, RefAt W1 R v rs lim arm dn → Bs W1 A2 xs → Calls Tryd.prog 62 #[.pointer (some ⟨R, 0, none⟩), .string s, .slice A2 n c2] W1 fun e W2 => e = .returned (.int .i64 er) ∧ ∃ v' rs', RWent W1 W2 R v rs v' rs' lim arm' dn' ∧ Fit cs rs' (nb + 1) := fun er h1 h2 =>
    ⟨er, ps.map PF.core, arm, dn, ⟨hnm, by omega⟩, h1.mono fun e W1 ⟨he, hk⟩ => ⟨he, ps, clock, Went.of_kin h hk, rfl⟩, fun W1 hR _ => (h2 W1 hR).mono fun e W2 ⟨he, hk⟩ => ⟨he, v, rs, RWent.of_kin hR hk, hf.more (Nat.le_succ _)⟩⟩
  have hus := hf.alike.used
  have hu4 := hf.used
  cases dn with
  | true =>
    exact no 13 ((append_no _ s _ 13 rfl W (Lib.hid (ready_any W F M lim arm true h.fb))).mono fun e W1 ⟨he, hw⟩ => ⟨he, by rw [hw]; exact Kept.refl _ _⟩) fun W1 hR => rappend_down s A2 n c2 W1 R v lim arm hR.rb
  | false =>
    cases hft : fullB s with
    | false => exact no 6 (append_bad s _ W F M lim arm ps clock hs hft h) fun W1 hR => rappend_bad s A2 n c2 W1 R v lim arm hs hft hR.rb
    | true =>
      by_cases hfull : 0 < n ∧ lim < (n : Int) + (usedR rs : Int)
      · exact no 14 (append_full s A1 n c1 W F M lim arm ps clock hs hft h (by omega) hfull.1 (by omega) (by rw [hus]; exact hfull.2)) fun W1 hR => rappend_full s A2 n c2 W1 R v rs lim arm hs hft hR (by omega) hfull.1 (by omega) hfull.2
      · have hfitR : n = 0 ∨ (n : Int) + (usedR rs : Int) ≤ lim := by
          rcases Nat.eq_zero_or_pos n with h0 | h0
          · exact .inl h0
          · exact .inr (by have := fun h => hfull ⟨h0, h⟩; omega)
        have hfitF : Fits lim ps n := by
          unfold Fits
          rw [hus]; exact hfitR
        have hlim := h.lim0.2
        rcases find_name ps s with hno | ⟨l1, p, l2, rfl, rfl⟩
        · have hnoR := hf.alike.none_ hno
          refine ⟨hitE arm, ps.map PF.core ++ [(s, xs, 0)], decA arm, decide (arm = 1), ⟨fun c hc => by
            rcases List.mem_append.1 hc with hc | hc
            · exact hnm c hc
            · have := fullB_size hft; simp at hc; subst hc; show s.size ≤ _; omega, by rw [List.length_append]; simp at hln ⊢; omega⟩, (append_new s A1 n c1 W F M lim arm ps clock xs hno hs hft h (by omega) hx hn hA hfitF hM).mono fun e W1 ⟨B, v9, he, hw⟩ => ⟨he, _, _, hw, by simp [PF.core]⟩, fun W1 hR hx2 => ?_⟩
          have eT : rs.take (atR rs s.data.toList) ++ rs.drop (atR rs s.data.toList) = rs := List.take_append_drop _ _
          have hlenT : (rs.take (atR rs s.data.toList)).length = atR rs s.data.toList := by rw [List.length_take, Nat.min_eq_left (atR_le _ _)]
          have hso : SortedR (insR rs ⟨s, [], 0, .slice none 0 0⟩) := sorted_ins (x := ⟨s, [], 0, .slice none 0 0⟩) hf.sorted hnoR
          have := rappend_new s A2 n c2 W1 R v (rs.take (atR rs s.data.toList)) (rs.drop (atR rs s.data.toList)) lim arm xs hs hft (by rw [eT]; exact hnoR) (by rw [eT, hlenT]) hso (by rw [eT]; have := hf.few; omega) (by rw [eT]; exact hR) (by rw [eT]; exact hu4) hx2 hn hA2 hR2 (by rw [eT]; exact hfitR)
          rw [eT] at this
          refine this.mono fun e W2 ⟨u, he, v', hw⟩ => ⟨he, v', _, hw, ?_⟩
          refine fit_ins (x := ⟨s, xs, 0, u⟩) (qs := []) hf.sorted hnoR ?_ hf.names (fullB_size hft) ?_ (by have := hf.few; omega)
          · exact (List.perm_append_singleton _ _).trans (hf.perm.cons _)
          · show xs.length + usedR rs ≤ 4194304
            rcases hfitR with h0 | h0 <;> omega
        · obtain ⟨r1, ⟨rn, rb, rsf, rv⟩, r2, rfl, hc⟩ := hf.alike.split
          obtain rfl : rn = p.name := congrArg Prod.fst hc
          obtain rfl : rb = p.b := congrArg (fun c => c.2.1) hc
          obtain rfl : rsf = p.safe := congrArg (fun c => c.2.2) hc
          refine ⟨hitE arm, (l1 ++ { p with b := p.b ++ xs } :: l2).map PF.core, decA arm, decide (arm = 1), ⟨fun c hc => by
            simp only [List.map_append, List.map_cons, List.mem_append, List.mem_cons] at hc hnm
            rcases hc with hc | rfl | hc
            · exact hnm c (.inl hc)
            · exact hnm p.core (.inr (.inl rfl))
            · exact hnm c (.inr (.inr hc)), by simp at hln ⊢; omega⟩, (append_old A1 n c1 W F M lim arm l1 l2 p clock xs hs hft h (by omega) hx hn hA hfitF).mono fun e W1 ⟨v9, he, hw⟩ => ⟨he, _, _, hw, by simp [PF.core]⟩, fun W1 hR hx2 => ?_⟩
          refine (rappend_old A2 n c2 W1 R v r1 r2 ⟨p.name, p.b, p.safe, rv⟩ lim arm xs hs hft hf.sorted hR hu4 hx2 hn hA2 hR2 hfitR).mono fun e W2 ⟨u, he, v', hw⟩ => ⟨he, v', _, hw, ?_⟩
          refine (fit_upd (q := { p with b := p.b ++ xs }) (x := ⟨p.name, p.b ++ xs, p.safe, u⟩) (r := ⟨p.name, p.b, p.safe, rv⟩) hf hc rfl rfl ?_).more (Nat.le_succ _)
          have hu5 : usedR (r1 ++ (⟨p.name, p.b ++ xs, p.safe, u⟩ : RV) :: r2) = usedR (r1 ++ (⟨p.name, p.b, p.safe, rv⟩ : RV) :: r2) + xs.length := by simp [usedR]; omega
          rw [hu5]
          rcases hfitR with h0 | h0 <;> omega
/-- Read of both. -/
theorem read_pair (s : ByteArray) (n : Nat) (h : FilesAt W F M ps clock lim arm dn) (hf : Fit (ps.map PF.core) rs n) :
    ∃ (er : Int) (xs : List UInt8), xs.length ≤ 4194304 ∧ (Calls Tryd.prog 19 #[.pointer (some ⟨F, 0, none⟩), .string s] W fun e W1 => ∃ u, e = .returned (.tuple #[u, .int .i64 er]) ∧ W1.ownsRow W.heap.size 5 1 u xs.length (xs.map bv) ∧ Kept (fun _ => False) W W1) ∧
    ∀ W1, RefAt W1 R v rs lim arm dn → Calls Tryd.prog 31 #[.pointer (some ⟨R, 0, none⟩), .string s] W1 fun e W2 => ∃ u, e = .returned (.tuple #[u, .int .i64 er]) ∧ W2.ownsRow W1.heap.size 5 1 u xs.length (xs.map bv) ∧ Kept (fun _ => False) W1 W2 := by
  cases dn with
  | true => exact ⟨13, [], by simp, read_down s W F M lim arm h.fb, fun W1 hR => (rread_down s W1 R v rs lim arm hf.sorted hR).mono fun e W2 ⟨he, hw⟩ => ⟨_, he, World.ownsRow_nil _ _ _ _, by rw [hw]; exact Kept.refl _ _⟩⟩
  | false =>
    rcases find_name ps s with hno | ⟨l1, p, l2, rfl, rfl⟩
    · exact ⟨8, [], by simp, read_none s W F M lim arm ps clock h hno, fun W1 hR => (rread_none s W1 R v rs lim arm (hf.alike.none_ hno) hR).mono fun e W2 ⟨he, hw⟩ => ⟨_, he, World.ownsRow_nil _ _ _ _, by rw [hw]; exact Kept.refl _ _⟩⟩
    · obtain ⟨r1, ⟨rn, rb, rsf, rv⟩, r2, rfl, hc⟩ := hf.alike.split
      obtain rfl : rn = p.name := congrArg Prod.fst hc
      obtain rfl : rb = p.b := congrArg (fun c => c.2.1) hc
      exact ⟨0, p.b, (h.at_ p (by simp)).len, read_some W F M lim arm l1 l2 p clock h, fun W1 hR => rread_some W1 R v r1 r2 ⟨p.name, p.b, rsf, rv⟩ lim arm hf.sorted hR⟩
theorem armI_r (z : Int) (h : z ≤ 9223372036854775807) : 0 ≤ armI z ∧ armI z ≤ 9223372036854775807 := by unfold armI; split <;> omega
/-- Arm, Limit of both: nothing answered. -/
theorem arm_pair (z : Int) (hz : z ≤ 9223372036854775807) (h : FilesAt W F M ps clock lim arm dn) :
    (Calls Tryd.prog 16 #[.pointer (some ⟨F, 0, none⟩), .int .i64 z] W fun e W1 => e = .returned (.tuple #[]) ∧ Went W F M ps ps clock lim (armI z) dn W1) ∧
    ∀ W1, RefAt W1 R v rs lim arm dn → Calls Tryd.prog 57 #[.pointer (some ⟨R, 0, none⟩), .int .i64 z] W1 fun e W2 => e = .returned (.tuple #[]) ∧ RWent W1 W2 R v rs v rs lim (armI z) dn := by
  refine ⟨(arm_any z W F M lim arm dn h.fb).mono fun e W1 ⟨he, hb, hk⟩ => ⟨he, h.own hk hb h.lim0 (armI_r z hz), hk.ofF, fun k hk => .inl hk⟩, fun W1 hR => (rarm_any z W1 R v lim arm dn hR.rb).mono fun e W2 ⟨he, hb, hk⟩ => ⟨he, hR.fields hb hk hR.most0 (armI_r z hz)⟩⟩
theorem limit_pair (z : Int) (h : FilesAt W F M ps clock lim arm dn) :
    (Calls Tryd.prog 32 #[.pointer (some ⟨F, 0, none⟩), .int .i64 z] W fun e W1 => e = .returned (.tuple #[]) ∧ Went W F M ps ps clock (boundI z) arm dn W1) ∧
    ∀ W1, RefAt W1 R v rs lim arm dn → Calls Tryd.prog 51 #[.pointer (some ⟨R, 0, none⟩), .int .i64 z] W1 fun e W2 => e = .returned (.tuple #[]) ∧ RWent W1 W2 R v rs v rs (boundI z) arm dn := by
  refine ⟨(limit_any z W F M lim arm dn h.fb).mono fun e W1 ⟨he, hb, hk⟩ => ⟨he, h.own hk hb (boundI_r z) h.arm0, hk.ofF, fun k hk => .inl hk⟩, fun W1 hR => (rlimit_any z W1 R v lim arm dn hR.rb).mono fun e W2 ⟨he, hb, hk⟩ => ⟨he, hR.fields hb hk (boundI_r z) hR.fuse0⟩⟩
theorem FallK.used {n : Nat} {zs : List Int} (h : FallK n zs rs rs' rs.length) : usedR rs' ≤ usedR rs := by
  have : ∀ (a b : List RV), a.length = b.length → (∀ (j : Nat) x y, a[j]? = some x → b[j]? = some y → y.b.length ≤ x.b.length) → usedR b ≤ usedR a := by
    intro a
    induction a with
    | nil => intro b hl _; cases b with | nil => exact Nat.le_refl _ | cons _ _ => simp at hl
    | cons x a ih =>
      intro b hl hh
      cases b with
      | nil => simp at hl
      | cons y b =>
        have h1 := hh 0 x y rfl rfl
        have h2 := ih b (by simpa using hl) fun j p q hp hq => hh (j + 1) p q (by simpa using hp) (by simpa using hq)
        simp [usedR] at h2 ⊢
        omega
  exact this rs rs' h.len.symm fun j x y hx hy => by
    have := (h.done j x y (List.getElem?_eq_some_iff.1 hx).1 hx hy).b
    rw [this, List.length_take]; omega
theorem fit_fall {n nb : Nat} {zs : List Int} {qs : List PF} (hf : Fit (ps.map PF.core) rs nb) (hn : (ps.map PF.name).Nodup) (hp : All2 (FallsX n zs ps (sortN ps)) ps qs) (hr : FallK n zs rs rs' rs.length) : Fit (qs.map PF.core) rs' nb := by
  have hal := hf.alike.fall hn hp hr
  refine ⟨hal.perm, hal.sorted, fun y hy => ?_, by have := hr.used; have := hf.used; omega, by have := hr.len; have := hf.few; omega⟩
  obtain ⟨j, hj⟩ := List.getElem?_of_mem hy
  have hjl := (List.getElem?_eq_some_iff.1 hj).1
  have hx := List.getElem?_eq_getElem (show j < rs.length by have := hr.len; omega)
  rw [(hr.done j _ _ (by have := hr.len; omega) hx hj).name]
  exact hf.names _ (List.getElem_mem _)
theorem Fit.namesF {n : Nat} (hf : Fit (ps.map PF.core) rs n) : ∀ p ∈ ps, p.name.size ≤ 1000000 := by
  intro p hp
  have : p.core ∈ rs.map RV.core := hf.perm.mem_iff.1 (List.mem_map_of_mem hp)
  obtain ⟨r, hr, he⟩ := List.mem_map.1 this
  have hn : r.name = p.name := congrArg Prod.fst he
  have := hf.names r hr
  rw [hn] at this
  omega
end
end Go.Proofs.YthkncfdgfbnchaaDoor
end
