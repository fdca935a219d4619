import Derived.Test.YtefpigakhhfcaaaDoorMap
import Derived.Test.YtefpigakhhfcaaaDoorMaz
/-! A log as its segments: pure. -/
section
set_option linter.unusedVariables false
set_option linter.unusedSimpArgs false
namespace Go.Proofs.YtefpigakhhfcaaaDoor

/-- A segment: its first offset, its records. -/
abbrev Prt := Nat × List (List UInt8)
def szP (p : Prt) : Nat := (frsL p.1 p.2).length
def frsP (p : Prt) : List UInt8 := frsL p.1 p.2
def sumR (l : List (List UInt8)) : Nat := (l.map fun b => 16 + b.length).sum
theorem frsN_len (n : Nat) (l : List (List UInt8)) : (frsL n l).length = sumR l := by
  induction l generalizing n with
  | nil => rfl
  | cons b l ih => simp only [frsL, List.length_append, frameB_len, ih, sumR, List.map_cons, List.sum_cons]; omega
theorem szP_eq (p : Prt) : szP p = sumR p.2 := frsN_len _ _
def endP (p : Prt) : Nat := p.1 + p.2.length
/-- Segments follow one another; none but the last is empty. -/
def Cont : List Prt → Prop
  | [] => True
  | [_] => True
  | p :: q :: r => q.1 = endP p ∧ p.2 ≠ [] ∧ Cont (q :: r)
def allR (ps : List Prt) : List (List UInt8) := ps.flatMap Prod.snd
def fstP (ps : List Prt) : Nat := (ps.head?.map Prod.fst).getD 0
def nxtP (ps : List Prt) : Nat := (ps.getLast?.map endP).getD 0
theorem Cont.tail {p : Prt} {ps : List Prt} (h : Cont (p :: ps)) : Cont ps := by
  cases ps with
  | nil => trivial
  | cons q r => exact h.2.2
theorem nxtP_cons {p : Prt} {ps : List Prt} : nxtP (p :: ps) = if ps = [] then endP p else nxtP ps := by
  cases ps with
  | nil => rfl
  | cons q r => simp [nxtP]
theorem nxtP_eq : ∀ {ps : List Prt}, Cont ps → nxtP ps = fstP ps + (allR ps).length
  | [], _ => rfl
  | [p], _ => by simp [nxtP, fstP, allR, endP]
  | p :: q :: r, h => by
    have ih := nxtP_eq h.2.2
    rw [nxtP_cons, if_neg (by simp), ih]
    have h1 := h.1
    simp only [fstP, allR, endP, List.head?_cons, Option.map_some, Option.getD_some, List.flatMap_cons, List.length_append] at *
    omega
theorem Cont.snoc : ∀ {ps : List Prt} {p : Prt}, Cont ps → (ps ≠ [] → p.1 = nxtP ps) → (∀ q ∈ ps, q.2 ≠ []) → Cont (ps ++ [p])
  | [], _, _, _, _ => trivial
  | [q], p, _, h, h3 => ⟨by simpa [nxtP] using h (by simp), h3 q (by simp), trivial⟩
  | q :: r :: s, p, h, h2, h3 => ⟨h.1, h.2.1, Cont.snoc (ps := r :: s) h.2.2 (fun _ => by rw [h2 (by simp), nxtP_cons, if_neg (by simp)]) fun x hx => h3 x (List.mem_cons_of_mem _ hx)⟩
theorem Cont.rise : ∀ {ps : List Prt}, Cont ps → (ps.map Prod.fst).Pairwise (· < ·) ∧ ∀ p ∈ ps, fstP ps ≤ p.1
  | [], _ => ⟨.nil, fun p hp => by cases hp⟩
  | [p], _ => ⟨by simp, fun q hq => by simp at hq; subst hq; simp [fstP]⟩
  | p :: q :: r, h => by
    obtain ⟨h1, h2⟩ := Cont.rise h.2.2
    have h3 : p.1 < q.1 := by
      have := List.length_pos_iff.2 h.2.1
      have := h.1
      unfold endP at this; omega
    refine ⟨?_, fun x hx => ?_⟩
    · rw [List.map_cons, List.pairwise_cons]
      refine ⟨fun v hv => ?_, h1⟩
      obtain ⟨x, hx, rfl⟩ := List.mem_map.1 hv
      have h4 := h2 x hx
      simp [fstP] at h4; omega
    · rcases List.mem_cons.1 hx with rfl | hx
      · simp [fstP]
      · have h4 := h2 x hx
        simp [fstP] at h4 ⊢; omega
theorem Cont.lt {x : Prt} {ps : List Prt} (h : Cont (x :: ps)) : ∀ p ∈ ps, x.1 < p.1 := fun p hp => (List.pairwise_cons.1 (show (x.1 :: ps.map Prod.fst).Pairwise (· < ·) from (Cont.rise h).1)).1 _ (List.mem_map_of_mem hp)
theorem Cont.lt_end : ∀ {ps : List Prt}, Cont ps → ∀ p ∈ ps, endP p ≤ nxtP ps
  | [], _, p, hp => by cases hp
  | [q], _, p, hp => by simp at hp; subst hp; simp [nxtP]
  | q :: r :: s, h, p, hp => by
    rw [nxtP_cons, if_neg (by simp)]
    rcases List.mem_cons.1 hp with rfl | hp
    · have := Cont.lt_end h.2.2 r (by simp)
      have h1 := h.1
      unfold endP at *; omega
    · exact Cont.lt_end h.2.2 p hp
/-- What lies under a log's names: all but the last segment whole and safe; behind the last one's records t. -/
def lookP (ps : List Prt) (t : List UInt8) (sf : Nat) (v : Nat) : Option FV := match ps with
  | [] => none
  | [p] => if v = p.1 then some (frsP p ++ t, sf) else none
  | p :: q :: r => if v = p.1 then some (frsP p, szP p) else lookP (q :: r) t sf v
def LogD (d : Disk) (nm : ByteArray) (ps : List Prt) (t : List UInt8) (sf : Nat) : Prop := ∀ v, v < 18446744073709551616 → d (fileB nm v) = lookP ps t sf v
theorem lookP_none : ∀ {ps : List Prt} {t : List UInt8} {sf v : Nat}, lookP ps t sf v ≠ none ↔ v ∈ ps.map Prod.fst
  | [], _, _, _ => by simp [lookP]
  | [p], t, sf, v => by simp [lookP]
  | p :: q :: r, t, sf, v => by
    rw [lookP, List.map_cons, List.mem_cons]
    by_cases h : v = p.1
    · simp [h]
    · rw [if_neg h, lookP_none (ps := q :: r)]; simp [h]
theorem lookP_last : ∀ {ps : List Prt} {p : Prt} {t : List UInt8} {sf : Nat}, Cont (ps ++ [p]) → lookP (ps ++ [p]) t sf p.1 = some (frsP p ++ t, sf)
  | [], p, t, sf, _ => by simp [lookP]
  | [q], p, t, sf, h => by
    have h1 : q.1 < p.1 := Cont.lt h p (by simp)
    simp [lookP, show ¬ p.1 = q.1 by omega]
  | q :: r :: s, p, t, sf, h => by
    have h1 : q.1 < p.1 := Cont.lt h p (by simp)
    have ih := lookP_last (ps := r :: s) (p := p) (t := t) (sf := sf) h.2.2
    rw [List.cons_append, List.cons_append, lookP, if_neg (by omega)]
    exact ih
theorem lookP_before : ∀ {a b : List Prt} {p : Prt} {t : List UInt8} {sf : Nat}, b ≠ [] → Cont (a ++ p :: b) → lookP (a ++ p :: b) t sf p.1 = some (frsP p, szP p)
  | [], q :: r, p, t, sf, _, h => by simp [lookP]
  | x :: a, b, p, t, sf, hb, h => by
    have h1 : x.1 < p.1 := Cont.lt h p (by simp)
    cases a with
    | nil =>
      have ih := lookP_before (a := []) (p := p) (t := t) (sf := sf) hb (Cont.tail h)
      simp only [List.cons_append, List.nil_append] at ih ⊢
      rw [lookP, if_neg (by omega)]; exact ih
    | cons y a =>
      have ih := lookP_before (a := y :: a) (p := p) (t := t) (sf := sf) hb (Cont.tail h)
      simp only [List.cons_append] at ih ⊢
      rw [lookP, if_neg (by omega)]; exact ih
/-- The last segment is another one. -/
theorem lookP_turn : ∀ {ps : List Prt} {p p' : Prt} {t t' : List UInt8} {sf sf' v : Nat}, p'.1 = p.1 → v ≠ p.1 → lookP (ps ++ [p']) t' sf' v = lookP (ps ++ [p]) t sf v
  | [], p, p', t, t', sf, sf', v, h, hv => by simp [lookP, h, hv]
  | [q], p, p', t, t', sf, sf', v, h, hv => by simp [lookP, h, hv]
  | q :: r :: s, p, p', t, t', sf, sf', v, h, hv => by
    have ih := lookP_turn (ps := r :: s) (p := p) (p' := p') (t := t) (t' := t') (sf := sf) (sf' := sf') (v := v) h hv
    simp only [List.cons_append] at ih ⊢
    rw [lookP, lookP, ih]
theorem lookP_snoc : ∀ {ps : List Prt} {p q : Prt} {t : List UInt8} {sf v : Nat}, v ≠ q.1 → lookP (ps ++ [p] ++ [q]) t sf v = lookP (ps ++ [p]) [] (szP p) v
  | [], p, q, t, sf, v, h => by simp [lookP, h, frsP, szP]
  | [x], p, q, t, sf, v, h => by simp [lookP, h, frsP, szP]
  | x :: y :: s, p, q, t, sf, v, h => by
    have ih := lookP_snoc (ps := y :: s) (p := p) (q := q) (t := t) (sf := sf) (v := v) h
    simp only [List.cons_append] at ih ⊢
    rw [lookP, lookP, ih]
theorem fileB_inj {nm : ByteArray} {v u : Nat} (hv : v < 18446744073709551616) (hu : u < 18446744073709551616) (h : fileB nm v = fileB nm u) : v = u := by
  unfold fileB at h
  exact fileL_inj hv hu (by simpa using h)
theorem fileB_nm {nm nm' : ByteArray} {v u : Nat} (h : fileB nm v = fileB nm' u) : nm = nm' := by
  unfold fileB at h
  have h1 : fileL nm.data.toList v = fileL nm'.data.toList u := by simpa using h
  have h2 : nm.data.toList.length = nm'.data.toList.length := by
    have := congrArg List.length h1
    rw [fileL_len, fileL_len] at this; omega
  unfold fileL at h1
  have h3 := (List.append_inj h1 h2).1
  cases nm; cases nm'
  simpa using h3
end Go.Proofs.YtefpigakhhfcaaaDoor
end

/-! compact.Open of files that are there, walked. -/
section
set_option linter.unusedVariables false
set_option linter.unusedSimpArgs false
namespace Go.Proofs.YtefpigakhhfcaaaDoor
open Go.RowKit

theorem Moved.open_ {w W w' : World} {T F M : Nat} {ps ps' : List PF} (hk : Kept (fun _ => False) w W) (hT : w.heap.size ≤ T) (h : Moved W T F M ps ps' w') : Kept (fun k => k ∈ foot F M ps) w w' ∧ ∀ k ∈ foot F M ps', k ∈ foot F M ps ∨ w.heap.size ≤ k :=
  ⟨(hk.mono fun _ _ e => e.elim).trans h.kept fun i hi e => by
    rcases e with e | e
    · omega
    · exact e, fun k hm => (h.feet k hm).imp id fun e => Nat.le_trans hk.size e⟩
theorem openD_none {d : Disk} {nk nt : ByteArray} {parts : List (List PV)} (h : d nk = none) : openD d nk nt parts = d.put nt none := by unfold openD; rw [h]
theorem openD_some {d : Disk} {nk nt : ByteArray} {parts : List (List PV)} {v : FV} (h : d nk = some v) : openD d nk nt parts = (d.put nt none).put nk (some (frsL 0 (parts.map bytesP), min v.2 (frsL 0 (parts.map bytesP)).length)) := by unfold openD; rw [h]
theorem put_id {d : Disk} {s : ByteArray} {x : Option FV} (h : d s = x) : d.put s x = d := by
  funext t
  unfold Disk.put
  split
  · next e => rw [e, h]
  · rfl
end Go.Proofs.YtefpigakhhfcaaaDoor
end

/-! A log's files, turned: pure. -/
section
set_option linter.unusedVariables false
set_option linter.unusedSimpArgs false
namespace Go.Proofs.YtefpigakhhfcaaaDoor

theorem LogD.put {d : Disk} {nm : ByteArray} {ps ps' : List Prt} {t t' : List UInt8} {sf sf' u : Nat} {x : Option FV} (h : LogD d nm ps t sf) (hu : u < 18446744073709551616)
    (h1 : lookP ps' t' sf' u = x) (h2 : ∀ v, v ≠ u → lookP ps' t' sf' v = lookP ps t sf v) : LogD (d.put (fileB nm u) x) nm ps' t' sf' := fun v hv => by
  by_cases e : v = u
  · subst e; rw [Disk.put_same, h1]
  · rw [Disk.put_ne _ _ fun e2 => e (fileB_inj hv hu e2), h v hv, h2 v e]
theorem LogD.other {d : Disk} {nm nm' : ByteArray} {ps : List Prt} {t : List UInt8} {sf u : Nat} {x : Option FV} (h : LogD d nm ps t sf) (hn : nm' ≠ nm) : LogD (d.put (fileB nm' u) x) nm ps t sf := fun v hv => by
  rw [Disk.put_ne _ _ fun e => hn (fileB_nm e).symm, h v hv]
theorem frsL_snoc1 (n : Nat) (l : List (List UInt8)) (b : List UInt8) : frsL n (l ++ [b]) = frsL n l ++ frameB (n + l.length) b := by
  rw [frsL_append]; simp [frsL]
theorem frsP_snoc (p : Prt) (b : List UInt8) : frsP (p.1, p.2 ++ [b]) = frsP p ++ frameB (endP p) b := frsL_snoc1 _ _ _
theorem szP_snoc (p : Prt) (b : List UInt8) : szP (p.1, p.2 ++ [b]) = szP p + (16 + b.length) := by
  rw [szP, frsL_snoc1, List.length_append, frameB_len, szP, Nat.add_comm b.length]
/-- The last segment is turned. -/
theorem LogD.last {d : Disk} {nm : ByteArray} {ps : List Prt} {p p' : Prt} {t t' : List UInt8} {sf sf' : Nat} (h : LogD d nm (ps ++ [p]) t sf) (hc : Cont (ps ++ [p'])) (he : p'.1 = p.1) (h64 : p.1 < 18446744073709551616) :
    LogD (d.put (fileB nm p.1) (some (frsP p' ++ t', sf'))) nm (ps ++ [p']) t' sf' :=
  h.put h64 (by rw [← he]; exact lookP_last hc) fun v hv => lookP_turn he hv
/-- A segment more. -/
theorem LogD.more {d : Disk} {nm : ByteArray} {ps : List Prt} {p q : Prt} {t : List UInt8} {sf : Nat} (h : LogD d nm (ps ++ [p]) [] (szP p)) (hc : Cont (ps ++ [p] ++ [q])) (h64 : q.1 < 18446744073709551616) :
    LogD (d.put (fileB nm q.1) (some (frsP q ++ t, sf))) nm (ps ++ [p] ++ [q]) t sf :=
  h.put h64 (lookP_last hc) fun v hv => lookP_snoc hv
theorem LogD.first {d : Disk} {nm : ByteArray} {q : Prt} {t t0 : List UInt8} {sf sf0 : Nat} (h : LogD d nm [] t0 sf0) (h64 : q.1 < 18446744073709551616) :
    LogD (d.put (fileB nm q.1) (some (frsP q ++ t, sf))) nm [q] t sf :=
  h.put h64 (by simp [lookP]) fun v hv => by simp [lookP, hv]
/-- The first segment goes. -/
theorem LogD.drop {d : Disk} {nm : ByteArray} {ps : List Prt} {p : Prt} {t : List UInt8} {sf : Nat} (h : LogD d nm (p :: ps) t sf) (hn : ps ≠ []) (hc : Cont (p :: ps)) (h64 : p.1 < 18446744073709551616) :
    LogD (d.put (fileB nm p.1) none) nm ps t sf := by
  refine h.put h64 ?_ fun v hv => ?_
  · apply Classical.byContradiction
    intro hx
    have := lookP_none.1 hx
    obtain ⟨q, hq, e⟩ := List.mem_map.1 this
    have := Cont.lt hc q hq
    omega
  · cases ps with
    | nil => exact absurd rfl hn
    | cons q r => rw [lookP, if_neg hv]
/-- The last segment goes. -/
theorem LogD.dropLast {d : Disk} {nm : ByteArray} {ps : List Prt} {p : Prt} {t : List UInt8} {sf : Nat} (h : LogD d nm (ps ++ [p]) t sf) (hc : Cont (ps ++ [p])) (h64 : p.1 < 18446744073709551616) :
    LogD (d.put (fileB nm p.1) none) nm ps [] ((ps.getLast?.map szP).getD 0) := by
  rcases List.eq_nil_or_concat ps with rfl | ⟨a, q, rfl⟩
  · refine h.put h64 (by simp [lookP]) fun v hv => by simp [lookP, hv]
  · rw [List.concat_eq_append] at h hc ⊢
    refine h.put h64 ?_ fun v hv => ?_
    · apply Classical.byContradiction
      intro hx
      obtain ⟨r, hr, e⟩ := List.mem_map.1 (lookP_none.1 hx)
      have h1 := (Cont.rise hc).1
      rw [List.map_append, List.pairwise_append] at h1
      have := h1.2.2 _ (List.mem_map_of_mem hr) p.1 (by simp)
      omega
    · rw [lookP_snoc hv]; simp
theorem LogD.mem {d : Disk} {nm : ByteArray} {ps : List Prt} {t : List UInt8} {sf v : Nat} (h : LogD d nm ps t sf) (hv : v < 18446744073709551616) : d (fileB nm v) ≠ none ↔ v ∈ ps.map Prod.fst := by
  rw [h v hv, lookP_none]
theorem LogD.picks {ps : List PF} {nm : ByteArray} {l : List Prt} {t : List UInt8} {sf : Nat} (h : LogD (lk ps) nm l t sf) (hc : Cont l) (h64 : ∀ p ∈ l, p.1 < 18446744073709551616) (hn : (ps.map PF.name).Nodup) :
    Go.Proofs.YtefpigakhhfcaaaDoor.picks nm.data.toList (sortN ps) = l.map Prod.fst :=
  picks_is hn (Cont.rise hc).1 (fun v hv => by obtain ⟨p, hp, rfl⟩ := List.mem_map.1 hv; exact h64 p hp) fun v hv => h.mem hv
end Go.Proofs.YtefpigakhhfcaaaDoor
end

/-! compact.Put, whatever hits the files, and however little room there is. -/
section
set_option linter.unusedVariables false
set_option linter.unusedSimpArgs false
namespace Go.Proofs.YtefpigakhhfcaaaDoor
open Go.RowKit

theorem put_put (d : Disk) (s : ByteArray) (x y : Option FV) : (d.put s x).put s y = d.put s y := by
  funext t
  unfold Disk.put
  by_cases h : t = s
  · rw [if_pos h, if_pos h]
  · rw [if_neg h, if_neg h, if_neg h]
/-- What Append answers, and leaves. -/
def AppR (w : World) (F M : Nat) (ps : List PF) (lim arm : Int) (s : ByteArray) (xs : List UInt8) (er : Int) (w' : World) : Prop :=
  (er = 14 ∧ lim < (xs.length : Int) + (usedL ps : Int) ∧ Kept (fun _ => False) w w') ∨
  (∃ ps' c', (er = 13 ∧ arm = 1 ∧ Went w F M ps ps' c' lim (decA arm) true w' ∨ er = 0 ∧ arm ≠ 1 ∧ Went w F M ps ps' c' lim (decA arm) false w') ∧ lk ps' = (lk ps).put s (some ((oldB (lk ps s)).1 ++ xs, (oldB (lk ps s)).2)))
theorem appR_any {w : World} {F M : Nat} {ps : List PF} {clock : Nat} {lim arm : Int} (s : ByteArray) (A : Option Addr) (n c : Nat) (xs : List UInt8) (h : FilesAt w F M ps clock lim arm false) (hs : s.size ≤ 140737488355328) (hf : fullB s = true) (hu : usedL ps ≤ 4194304) (hx : Bs w A xs) (hn : n = xs.length) (hn9 : n ≤ 1000000000) (hA : A = none → c = 0) (hM : ∀ ad, A = some ad → xs = [] ∨ ad.block ≠ M) :
    Calls Tryd.prog 34 #[.pointer (some ⟨F, 0, none⟩), .string s, .slice A n c] w fun e w' => ∃ er, e = .returned (.int .i64 er) ∧ AppR w F M ps lim arm s xs er w' := by
  by_cases hfit : Fits lim ps n
  · refine (append_D s A n c xs h hs hf hu hx hn hA hfit hM).mono ?_
    rintro e w' ⟨rfl, ps', c', hw, hd⟩
    refine ⟨_, rfl, .inr ⟨ps', c', ?_, hd⟩⟩
    by_cases ha : arm = 1
    · rw [decide_eq_true ha] at hw
      exact .inl ⟨by rw [hitE, if_pos ha], ha, hw⟩
    · rw [decide_eq_false ha] at hw
      exact .inr ⟨by rw [hitE, if_neg ha], ha, hw⟩
  · unfold Fits at hfit
    refine (append_full s A n c w F M lim arm ps clock hs hf h hu (by omega) hn9 (by omega)).mono ?_
    rintro e w' ⟨rfl, hk⟩
    exact ⟨14, rfl, .inl ⟨rfl, by omega, hk⟩⟩
/-- What an operation that cannot be refused answers, and leaves. -/
def OpR (w : World) (F M : Nat) (ps : List PF) (lim arm : Int) (d : Disk) (er : Int) (w' : World) : Prop :=
  ∃ ps' c', (er = 13 ∧ arm = 1 ∧ Went w F M ps ps' c' lim (decA arm) true w' ∧ lk ps' = lk ps) ∨ (er = 0 ∧ arm ≠ 1 ∧ Went w F M ps ps' c' lim (decA arm) false w' ∧ lk ps' = d)
theorem opR_of {w : World} {F M : Nat} {ps : List PF} {lim arm : Int} {d : Disk} {e : Ending} {w' : World} (h : DPost w F M ps (hitE arm) lim (decA arm) (decide (arm = 1)) (if arm = 1 then lk ps else d) e w') : ∃ er, e = .returned (.int .i64 er) ∧ OpR w F M ps lim arm d er w' := by
  obtain ⟨rfl, ps', c', hw, hd⟩ := h
  refine ⟨_, rfl, ps', c', ?_⟩
  by_cases ha : arm = 1
  · rw [decide_eq_true ha] at hw
    rw [if_pos ha] at hd
    exact .inl ⟨by rw [hitE, if_pos ha], ha, hw, hd⟩
  · rw [decide_eq_false ha] at hw
    rw [if_neg ha] at hd
    exact .inr ⟨by rw [hitE, if_neg ha], ha, hw, hd⟩
end Go.Proofs.YtefpigakhhfcaaaDoor
end

/-! Pairs that stay while a store is called; All; a store that is dead. -/
section
set_option linter.unusedVariables false
set_option linter.unusedSimpArgs false
namespace Go.Proofs.YtefpigakhhfcaaaDoor
open Go.RowKit

def PsF (w : World) (T F M : Nat) (ps : List PF) (A : Option Addr) (ms : List PV) : Prop := ∀ W, Kept (fun k => k = T ∨ k ∈ foot F M ps) w W → PsAt W A ms
section
variable {w w' w0 : World} {T F M : Nat} {ps ps' : List PF} {A : Option Addr} {ms : List PV}
theorem PsF.moved (h : PsF w T F M ps A ms) (m : Moved w T F M ps ps' w') : PsF w' T F M ps' A ms := fun W hk =>
  h W (m.kept.trans hk fun i hi e => by
    rcases e with e | e
    · exact .inl e
    · exact .inr ((m.feet i e).resolve_right (by omega)))
theorem PsF.here (h : PsF w T F M ps A ms) : PsAt w A ms := h w (Kept.refl _ _)
theorem PsF.arg (h : PsAt w0 A ms) (hk : Kept (fun _ => False) w0 w) (hT : w0.heap.size ≤ T) (hf : ∀ k ∈ foot F M ps, w0.heap.size ≤ k) : PsF w T F M ps A ms := fun W hW =>
  h.kept (hk.trans hW fun i hi e => by
    rcases e with e | e
    · omega
    · have := hf i e; omega)
end
end Go.Proofs.YtefpigakhhfcaaaDoor
end

/-! One file, or none, and its falls; frames cut off. -/
section
set_option linter.unusedVariables false
set_option linter.unusedSimpArgs false
namespace Go.Proofs.YtefpigakhhfcaaaDoor
open Go.RowKit

theorem only_D {ps : List PF} {nk : ByteArray} (hn : (ps.map PF.name).Nodup) (h : ∀ s, s ≠ nk → lk ps s = none) : (∀ p ∈ ps, p.name = nk) ∧ ps.length ≤ 1 ∧ usedL ps = szV (lk ps nk) := by
  have h1 : ∀ p ∈ ps, p.name = nk := fun p hp => by
    by_cases e : p.name = nk
    · exact e
    · exact absurd (h _ e) (lk_mem hp)
  refine ⟨h1, ?_, ?_⟩
  · have := len_sub (S := [nk]) hn fun x hx => by
      obtain ⟨p, hp, rfl⟩ := List.mem_map.1 hx
      rw [h1 p hp]; exact List.mem_cons_self
    simpa using this
  · have := used_sum (S := [nk]) (by simp) hn fun p hp => by rw [h1 p hp]; exact List.mem_cons_self
    simpa using this
theorem FellV.of_some {b : List UInt8} {s : Nat} {y : Option FV} (h : FellV (some (b, s)) y) : ∃ k, s ≤ k ∧ k ≤ b.length ∧ y = some (b.take k, k) := by
  rcases h with ⟨h, _⟩ | ⟨b', s', k, h, h1, h2, h3⟩
  · cases h
  · injection h with h
    injection h with h4 h5
    subst h4; subst h5
    exact ⟨k, h1, h2, h3⟩
theorem FellV.of_none {y : Option FV} (h : FellV none y) : y = none := by
  rcases h with ⟨_, h⟩ | ⟨b', s', k, h, _⟩
  · exact h
  · cases h
theorem few_fit {ps : List PV} (h : fewP ps = true) : ps.length ≤ 10000 ∧ (bytesP ps).length ≤ 32768 ∧ ∀ p ∈ ps, p.key.size ≤ 32768 ∧ p.b.length ≤ 32768 := by
  obtain ⟨h1, h2, h3⟩ := few_small h
  exact ⟨by omega, by omega, fun p hp => by have := h2 p hp; unfold wt at this; omega⟩
theorem kis_two {ps1 ps2 : List PV} (h1 : fewP ps1 = true) (h2 : fewP ps2 = true) {j : Nat} (hj : (frameB 0 (bytesP ps1)).length ≤ j) (hj2 : j ≤ (frameB 0 (bytesP ps1) ++ frameB 1 (bytesP ps2)).length) :
    ∃ parts t, KIs (some ((frameB 0 (bytesP ps1) ++ frameB 1 (bytesP ps2)).take j, j)) parts t ∧ (parts = [ps1] ∨ parts = [ps1, ps2]) ∧ (j = (frameB 0 (bytesP ps1) ++ frameB 1 (bytesP ps2)).length → parts = [ps1, ps2]) := by
  have g1 := few_fit h1
  have g2 := few_fit h2
  have g3 := (few_small h1).1
  have g4 := (few_small h2).1
  by_cases he : j = (frameB 0 (bytesP ps1) ++ frameB 1 (bytesP ps2)).length
  · refine ⟨[ps1, ps2], [], ⟨.inr ⟨j, ?_⟩, ⟨[], 0, by simp, by rw [frameB_len]; simp, rfl⟩, fun l hl => ?_, by simp, by simp; omega⟩, .inr rfl, fun _ => rfl⟩
    · rw [he, List.take_length]; simp [frsL]
    · simp only [List.mem_cons, List.not_mem_nil, or_false] at hl
      rcases hl with rfl | rfl
      · exact g1
      · exact g2
  · refine ⟨[ps1], (frameB 1 (bytesP ps2)).take (j - (frameB 0 (bytesP ps1)).length), ⟨.inr ⟨j, ?_⟩, ⟨bytesP ps2, j - (frameB 0 (bytesP ps1)).length, g2.2.1, ?_, rfl⟩, fun l hl => ?_, by simp, by simp; omega⟩, .inl rfl, fun e => absurd e he⟩
    · rw [List.take_append, List.take_of_length_le hj]; simp [frsL]
    · rw [List.length_append] at he hj2
      show _ < (frameB 1 (bytesP ps2)).length
      omega
    · rw [List.mem_singleton.1 hl]; exact g1
/-- Names that are not too long, few files. -/
theorem only_small {ps : List PF} {nk : ByteArray} (hn : (ps.map PF.name).Nodup) (h : ∀ s, s ≠ nk → lk ps s = none) (hs : nk.size ≤ 1000000) : ps.length ≤ 1000000 ∧ ∀ p ∈ ps, p.name.size ≤ 1000000 := by
  have h1 := only_D hn h
  exact ⟨by omega, fun p hp => by rw [h1.1 p hp]; exact hs⟩
theorem Moved.hit {w w1 : World} {T F M : Nat} {ps : List PF} (h : Kept (fun k => k = F) w w1) : Moved w T F M ps ps w1 := ⟨h.mono fun k _ e => .inr (by subst e; simp [foot]), fun k e => .inl e⟩
theorem Moved.opened {w w1 : World} {T F M : Nat} {ps ps' : List PF} (h : Kept (fun k => k ∈ foot F M ps) w w1) (hf : ∀ k ∈ foot F M ps', k ∈ foot F M ps ∨ w.heap.size ≤ k) : Moved w T F M ps ps' w1 := ⟨h.mono fun k _ e => .inr e, hf⟩
/-- Blocks that came behind a world. -/
theorem Moved.new {w0 w w1 : World} {T F M : Nat} {ps ps' : List PF} (h : Moved w T F M ps ps' w1) (hw : w0.heap.size ≤ w.heap.size) (hf : ∀ k ∈ foot F M ps, w0.heap.size ≤ k) : ∀ k ∈ foot F M ps', w0.heap.size ≤ k := fun k hk => (h.feet k hk).elim (hf k) fun e => Nat.le_trans hw e
theorem Moved.none_ {w0 w w1 : World} {T F M : Nat} {ps ps' : List PF} (h : Moved w T F M ps ps' w1) (h0 : Kept (fun _ => False) w0 w) (hT : w0.heap.size ≤ T) (hf : ∀ k ∈ foot F M ps, w0.heap.size ≤ k) : Kept (fun _ => False) w0 w1 :=
  h0.trans h.kept fun i hi e => by
    rcases e with e | e
    · omega
    · have := hf i e; omega
theorem fits_no {ps : List PF} {n : Nat} {lim : Int} (h : lim < (n : Int) + (usedL ps : Int)) {u : Nat} (hu : usedL ps = u) (h2 : (n : Int) + (u : Int) ≤ lim) : False := by rw [hu] at h; omega
end Go.Proofs.YtefpigakhhfcaaaDoor
end
