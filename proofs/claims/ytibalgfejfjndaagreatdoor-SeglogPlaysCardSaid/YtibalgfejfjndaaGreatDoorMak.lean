import Derived.Test.YtibalgfejfjndaaGreatDoorMaj
import Derived.Test.YtibalgfejfjndaaGreatDoorMaf
import Derived.Test.YtibalgfejfjndaaGreatDoorMah
import Derived.OwnWalkIn
import Derived.Maps.AppendAt
import Derived.Laws.Bits64b
/-! A log's files, turned: pure. -/
section
set_option linter.unusedVariables false
set_option linter.unusedSimpArgs false
namespace Go.Proofs.YtibalgfejfjndaaGreatDoor

theorem LogD.put {d : Disk} {nm : ByteArray} {ps ps' : List Prt} {t t' : List UInt8} {sf sf' u : Nat} {x : Option FV} (h : LogD d nm ps t sf) (hu : u < 18446744073709551616)
    (h1 : lookP ps' t' sf' u = x) (h2 : ∀ v, v ≠ u → lookP ps' t' sf' v = lookP ps t sf v) : LogD (d.put (fileB nm u) x) nm ps' t' sf' := fun v hv => by
  by_cases e : v = u
  · subst e; rw [Disk.put_same, h1]
  · rw [Disk.put_ne _ _ fun e2 => e (fileB_inj hv hu e2), h v hv, h2 v e]
theorem LogD.other {d : Disk} {nm nm' : ByteArray} {ps : List Prt} {t : List UInt8} {sf u : Nat} {x : Option FV} (h : LogD d nm ps t sf) (hn : nm' ≠ nm) : LogD (d.put (fileB nm' u) x) nm ps t sf := fun v hv => by
  rw [Disk.put_ne _ _ fun e => hn (fileB_nm e).symm, h v hv]
theorem frsL_snoc1 (n : Nat) (l : List (List UInt8)) (b : List UInt8) : frsL n (l ++ [b]) = frsL n l ++ frameB (n + l.length) b := by
  rw [frsL_append]; simp [frsL]
theorem frsP_snoc (p : Prt) (b : List UInt8) : frsP (p.1, p.2 ++ [b]) = frsP p ++ frameB (endP p) b := frsL_snoc1 _ _ _
theorem szP_snoc (p : Prt) (b : List UInt8) : szP (p.1, p.2 ++ [b]) = szP p + (16 + b.length) := by
  rw [szP, frsL_snoc1, List.length_append, frameB_len, szP, Nat.add_comm b.length]
/-- The last segment is turned. -/
theorem LogD.last {d : Disk} {nm : ByteArray} {ps : List Prt} {p p' : Prt} {t t' : List UInt8} {sf sf' : Nat} (h : LogD d nm (ps ++ [p]) t sf) (hc : Cont (ps ++ [p'])) (he : p'.1 = p.1) (h64 : p.1 < 18446744073709551616) :
    LogD (d.put (fileB nm p.1) (some (frsP p' ++ t', sf'))) nm (ps ++ [p']) t' sf' :=
  h.put h64 (by rw [← he]; exact lookP_last hc) fun v hv => lookP_turn he hv
/-- A segment more. -/
theorem LogD.more {d : Disk} {nm : ByteArray} {ps : List Prt} {p q : Prt} {t : List UInt8} {sf : Nat} (h : LogD d nm (ps ++ [p]) [] (szP p)) (hc : Cont (ps ++ [p] ++ [q])) (h64 : q.1 < 18446744073709551616) :
    LogD (d.put (fileB nm q.1) (some (frsP q ++ t, sf))) nm (ps ++ [p] ++ [q]) t sf :=
  h.put h64 (lookP_last hc) fun v hv => lookP_snoc hv
theorem LogD.first {d : Disk} {nm : ByteArray} {q : Prt} {t t0 : List UInt8} {sf sf0 : Nat} (h : LogD d nm [] t0 sf0) (h64 : q.1 < 18446744073709551616) :
    LogD (d.put (fileB nm q.1) (some (frsP q ++ t, sf))) nm [q] t sf :=
  h.put h64 (by simp [lookP]) fun v hv => by simp [lookP, hv]
/-- The first segment goes. -/
theorem LogD.drop {d : Disk} {nm : ByteArray} {ps : List Prt} {p : Prt} {t : List UInt8} {sf : Nat} (h : LogD d nm (p :: ps) t sf) (hn : ps ≠ []) (hc : Cont (p :: ps)) (h64 : p.1 < 18446744073709551616) :
    LogD (d.put (fileB nm p.1) none) nm ps t sf := by
  refine h.put h64 ?_ fun v hv => ?_
  · apply Classical.byContradiction
    intro hx
    have := lookP_none.1 hx
    obtain ⟨q, hq, e⟩ := List.mem_map.1 this
    have := Cont.lt hc q hq
    omega
  · cases ps with
    | nil => exact absurd rfl hn
    | cons q r => rw [lookP, if_neg hv]
/-- The last segment goes. -/
theorem LogD.dropLast {d : Disk} {nm : ByteArray} {ps : List Prt} {p : Prt} {t : List UInt8} {sf : Nat} (h : LogD d nm (ps ++ [p]) t sf) (hc : Cont (ps ++ [p])) (h64 : p.1 < 18446744073709551616) :
    LogD (d.put (fileB nm p.1) none) nm ps [] ((ps.getLast?.map szP).getD 0) := by
  rcases List.eq_nil_or_concat ps with rfl | ⟨a, q, rfl⟩
  · refine h.put h64 (by simp [lookP]) fun v hv => by simp [lookP, hv]
  · rw [List.concat_eq_append] at h hc ⊢
    refine h.put h64 ?_ fun v hv => ?_
    · apply Classical.byContradiction
      intro hx
      obtain ⟨r, hr, e⟩ := List.mem_map.1 (lookP_none.1 hx)
      have h1 := (Cont.rise hc).1
      rw [List.map_append, List.pairwise_append] at h1
      have := h1.2.2 _ (List.mem_map_of_mem hr) p.1 (by simp)
      omega
    · rw [lookP_snoc hv]; simp
theorem LogD.mem {d : Disk} {nm : ByteArray} {ps : List Prt} {t : List UInt8} {sf v : Nat} (h : LogD d nm ps t sf) (hv : v < 18446744073709551616) : d (fileB nm v) ≠ none ↔ v ∈ ps.map Prod.fst := by
  rw [h v hv, lookP_none]
theorem LogD.picks {ps : List PF} {nm : ByteArray} {l : List Prt} {t : List UInt8} {sf : Nat} (h : LogD (lk ps) nm l t sf) (hc : Cont l) (h64 : ∀ p ∈ l, p.1 < 18446744073709551616) (hn : (ps.map PF.name).Nodup) :
    Go.Proofs.YtibalgfejfjndaaGreatDoor.picks nm.data.toList (sortN ps) = l.map Prod.fst :=
  picks_is hn (Cont.rise hc).1 (fun v hv => by obtain ⟨p, hp, rfl⟩ := List.mem_map.1 hv; exact h64 p hp) fun v hv => h.mem hv
end Go.Proofs.YtibalgfejfjndaaGreatDoor
end

/-! compact.Put, whatever hits the files, and however little room there is. -/
section
set_option linter.unusedVariables false
set_option linter.unusedSimpArgs false
namespace Go.Proofs.YtibalgfejfjndaaGreatDoor
open Go.RowKit

theorem put_put (d : Disk) (s : ByteArray) (x y : Option FV) : (d.put s x).put s y = d.put s y := by
  funext t
  unfold Disk.put
  by_cases h : t = s
  · rw [if_pos h, if_pos h]
  · rw [if_neg h, if_neg h, if_neg h]
/-- What Append answers, and leaves. -/
def AppR (w : World) (F M : Nat) (ps : List PF) (lim arm : Int) (s : ByteArray) (xs : List UInt8) (er : Int) (w' : World) : Prop :=
  (er = 14 ∧ lim < (xs.length : Int) + (usedL ps : Int) ∧ Kept (fun _ => False) w w') ∨
  (∃ ps' c', (er = 13 ∧ arm = 1 ∧ Went w F M ps ps' c' lim (decA arm) true w' ∨ er = 0 ∧ arm ≠ 1 ∧ Went w F M ps ps' c' lim (decA arm) false w') ∧ lk ps' = (lk ps).put s (some ((oldB (lk ps s)).1 ++ xs, (oldB (lk ps s)).2)))
theorem appR_any {w : World} {F M : Nat} {ps : List PF} {clock : Nat} {lim arm : Int} (s : ByteArray) (A : Option Addr) (n c : Nat) (xs : List UInt8) (h : FilesAt w F M ps clock lim arm false) (hs : s.size ≤ 140737488355328) (hf : fullB s = true) (hu : usedL ps ≤ 4194304) (hx : Bs w A xs) (hn : n = xs.length) (hn9 : n ≤ 1000000000) (hA : A = none → c = 0) (hM : ∀ ad, A = some ad → xs = [] ∨ ad.block ≠ M) :
    Calls Tryz.prog 46 #[.pointer (some ⟨F, 0, none⟩), .string s, .slice A n c] w fun e w' => ∃ er, e = .returned (.int .i64 er) ∧ AppR w F M ps lim arm s xs er w' := by
  by_cases hfit : Fits lim ps n
  · refine (append_D s A n c xs h hs hf hu hx hn hA hfit hM).mono ?_
    rintro e w' ⟨rfl, ps', c', hw, hd⟩
    refine ⟨_, rfl, .inr ⟨ps', c', ?_, hd⟩⟩
    by_cases ha : arm = 1
    · rw [decide_eq_true ha] at hw
      exact .inl ⟨by rw [hitE, if_pos ha], ha, hw⟩
    · rw [decide_eq_false ha] at hw
      exact .inr ⟨by rw [hitE, if_neg ha], ha, hw⟩
  · unfold Fits at hfit
    refine (append_full s A n c w F M lim arm ps clock hs hf h hu (by omega) hn9 (by omega)).mono ?_
    rintro e w' ⟨rfl, hk⟩
    exact ⟨14, rfl, .inl ⟨rfl, by omega, hk⟩⟩
/-- What an operation that cannot be refused answers, and leaves. -/
def OpR (w : World) (F M : Nat) (ps : List PF) (lim arm : Int) (d : Disk) (er : Int) (w' : World) : Prop :=
  ∃ ps' c', (er = 13 ∧ arm = 1 ∧ Went w F M ps ps' c' lim (decA arm) true w' ∧ lk ps' = lk ps) ∨ (er = 0 ∧ arm ≠ 1 ∧ Went w F M ps ps' c' lim (decA arm) false w' ∧ lk ps' = d)
theorem opR_of {w : World} {F M : Nat} {ps : List PF} {lim arm : Int} {d : Disk} {e : Ending} {w' : World} (h : DPost w F M ps (hitE arm) lim (decA arm) (decide (arm = 1)) (if arm = 1 then lk ps else d) e w') : ∃ er, e = .returned (.int .i64 er) ∧ OpR w F M ps lim arm d er w' := by
  obtain ⟨rfl, ps', c', hw, hd⟩ := h
  refine ⟨_, rfl, ps', c', ?_⟩
  by_cases ha : arm = 1
  · rw [decide_eq_true ha] at hw
    rw [if_pos ha] at hd
    exact .inl ⟨by rw [hitE, if_pos ha], ha, hw, hd⟩
  · rw [decide_eq_false ha] at hw
    rw [if_neg ha] at hd
    exact .inr ⟨by rw [hitE, if_neg ha], ha, hw, hd⟩
end Go.Proofs.YtibalgfejfjndaaGreatDoor
end

/-! Pairs that stay while a store is called; All; a store that is dead. -/
section
set_option linter.unusedVariables false
set_option linter.unusedSimpArgs false
namespace Go.Proofs.YtibalgfejfjndaaGreatDoor
open Go.RowKit

def PsF (w : World) (T F M : Nat) (ps : List PF) (A : Option Addr) (ms : List PV) : Prop := ∀ W, Kept (fun k => k = T ∨ k ∈ foot F M ps) w W → PsAt W A ms
section
variable {w w' w0 : World} {T F M : Nat} {ps ps' : List PF} {A : Option Addr} {ms : List PV}
theorem PsF.moved (h : PsF w T F M ps A ms) (m : Moved w T F M ps ps' w') : PsF w' T F M ps' A ms := fun W hk =>
  h W (m.kept.trans hk fun i hi e => by
    rcases e with e | e
    · exact .inl e
    · exact .inr ((m.feet i e).resolve_right (by omega)))
theorem PsF.here (h : PsF w T F M ps A ms) : PsAt w A ms := h w (Kept.refl _ _)
theorem PsF.arg (h : PsAt w0 A ms) (hk : Kept (fun _ => False) w0 w) (hT : w0.heap.size ≤ T) (hf : ∀ k ∈ foot F M ps, w0.heap.size ≤ k) : PsF w T F M ps A ms := fun W hW =>
  h.kept (hk.trans hW fun i hi e => by
    rcases e with e | e
    · omega
    · have := hf i e; omega)
end
end Go.Proofs.YtibalgfejfjndaaGreatDoor
end

/-! One file, or none, and its falls; frames cut off. -/
section
set_option linter.unusedVariables false
set_option linter.unusedSimpArgs false
namespace Go.Proofs.YtibalgfejfjndaaGreatDoor
open Go.RowKit

theorem only_D {ps : List PF} {nk : ByteArray} (hn : (ps.map PF.name).Nodup) (h : ∀ s, s ≠ nk → lk ps s = none) : (∀ p ∈ ps, p.name = nk) ∧ ps.length ≤ 1 ∧ usedL ps = szV (lk ps nk) := by
  have h1 : ∀ p ∈ ps, p.name = nk := fun p hp => by
    by_cases e : p.name = nk
    · exact e
    · exact absurd (h _ e) (lk_mem hp)
  refine ⟨h1, ?_, ?_⟩
  · have := len_sub (S := [nk]) hn fun x hx => by
      obtain ⟨p, hp, rfl⟩ := List.mem_map.1 hx
      rw [h1 p hp]; exact List.mem_cons_self
    simpa using this
  · have := used_sum (S := [nk]) (by simp) hn fun p hp => by rw [h1 p hp]; exact List.mem_cons_self
    simpa using this
theorem FellV.of_some {b : List UInt8} {s : Nat} {y : Option FV} (h : FellV (some (b, s)) y) : ∃ k, s ≤ k ∧ k ≤ b.length ∧ y = some (b.take k, k) := by
  rcases h with ⟨h, _⟩ | ⟨b', s', k, h, h1, h2, h3⟩
  · cases h
  · injection h with h
    injection h with h4 h5
    subst h4; subst h5
    exact ⟨k, h1, h2, h3⟩
theorem FellV.of_none {y : Option FV} (h : FellV none y) : y = none := by
  rcases h with ⟨_, h⟩ | ⟨b', s', k, h, _⟩
  · exact h
  · cases h
theorem few_fit {ps : List PV} (h : fewP ps = true) : ps.length ≤ 10000 ∧ (bytesP ps).length ≤ 32768 ∧ ∀ p ∈ ps, p.key.size ≤ 32768 ∧ p.b.length ≤ 32768 := by
  obtain ⟨h1, h2, h3⟩ := few_small h
  exact ⟨by omega, by omega, fun p hp => by have := h2 p hp; unfold wt at this; omega⟩
theorem kis_two {ps1 ps2 : List PV} (h1 : fewP ps1 = true) (h2 : fewP ps2 = true) {j : Nat} (hj : (frameB 0 (bytesP ps1)).length ≤ j) (hj2 : j ≤ (frameB 0 (bytesP ps1) ++ frameB 1 (bytesP ps2)).length) :
    ∃ parts t, KIs (some ((frameB 0 (bytesP ps1) ++ frameB 1 (bytesP ps2)).take j, j)) parts t ∧ (parts = [ps1] ∨ parts = [ps1, ps2]) ∧ (j = (frameB 0 (bytesP ps1) ++ frameB 1 (bytesP ps2)).length → parts = [ps1, ps2]) := by
  have g1 := few_fit h1
  have g2 := few_fit h2
  have g3 := (few_small h1).1
  have g4 := (few_small h2).1
  by_cases he : j = (frameB 0 (bytesP ps1) ++ frameB 1 (bytesP ps2)).length
  · refine ⟨[ps1, ps2], [], ⟨.inr ⟨j, ?_⟩, ⟨[], 0, by simp, by rw [frameB_len]; simp, rfl⟩, fun l hl => ?_, by simp, by simp; omega⟩, .inr rfl, fun _ => rfl⟩
    · rw [he, List.take_length]; simp [frsL]
    · simp only [List.mem_cons, List.not_mem_nil, or_false] at hl
      rcases hl with rfl | rfl
      · exact g1
      · exact g2
  · refine ⟨[ps1], (frameB 1 (bytesP ps2)).take (j - (frameB 0 (bytesP ps1)).length), ⟨.inr ⟨j, ?_⟩, ⟨bytesP ps2, j - (frameB 0 (bytesP ps1)).length, g2.2.1, ?_, rfl⟩, fun l hl => ?_, by simp, by simp; omega⟩, .inl rfl, fun e => absurd e he⟩
    · rw [List.take_append, List.take_of_length_le hj]; simp [frsL]
    · rw [List.length_append] at he hj2
      show _ < (frameB 1 (bytesP ps2)).length
      omega
    · rw [List.mem_singleton.1 hl]; exact g1
/-- Names that are not too long, few files. -/
theorem only_small {ps : List PF} {nk : ByteArray} (hn : (ps.map PF.name).Nodup) (h : ∀ s, s ≠ nk → lk ps s = none) (hs : nk.size ≤ 1000000) : ps.length ≤ 1000000 ∧ ∀ p ∈ ps, p.name.size ≤ 1000000 := by
  have h1 := only_D hn h
  exact ⟨by omega, fun p hp => by rw [h1.1 p hp]; exact hs⟩
theorem Moved.hit {w w1 : World} {T F M : Nat} {ps : List PF} (h : Kept (fun k => k = F) w w1) : Moved w T F M ps ps w1 := ⟨h.mono fun k _ e => .inr (by subst e; simp [foot]), fun k e => .inl e⟩
theorem Moved.opened {w w1 : World} {T F M : Nat} {ps ps' : List PF} (h : Kept (fun k => k ∈ foot F M ps) w w1) (hf : ∀ k ∈ foot F M ps', k ∈ foot F M ps ∨ w.heap.size ≤ k) : Moved w T F M ps ps' w1 := ⟨h.mono fun k _ e => .inr e, hf⟩
/-- Blocks that came behind a world. -/
theorem Moved.new {w0 w w1 : World} {T F M : Nat} {ps ps' : List PF} (h : Moved w T F M ps ps' w1) (hw : w0.heap.size ≤ w.heap.size) (hf : ∀ k ∈ foot F M ps, w0.heap.size ≤ k) : ∀ k ∈ foot F M ps', w0.heap.size ≤ k := fun k hk => (h.feet k hk).elim (hf k) fun e => Nat.le_trans hw e
theorem Moved.none_ {w0 w w1 : World} {T F M : Nat} {ps ps' : List PF} (h : Moved w T F M ps ps' w1) (h0 : Kept (fun _ => False) w0 w) (hT : w0.heap.size ≤ T) (hf : ∀ k ∈ foot F M ps, w0.heap.size ≤ k) : Kept (fun _ => False) w0 w1 :=
  h0.trans h.kept fun i hi e => by
    rcases e with e | e
    · omega
    · have := hf i e; omega
theorem fits_no {ps : List PF} {n : Nat} {lim : Int} (h : lim < (n : Int) + (usedL ps : Int)) {u : Nat} (hu : usedL ps = u) (h2 : (n : Int) + (u : Int) ≤ lim) : False := by rw [hu] at h; omega
end Go.Proofs.YtibalgfejfjndaaGreatDoor
end

/-! How many bytes the files have, when one is another one. -/
section
set_option linter.unusedVariables false
set_option linter.unusedSimpArgs false
namespace Go.Proofs.YtibalgfejfjndaaGreatDoor
open Go.RowKit

theorem sum_put' {S : List ByteArray} {d : Disk} {s : ByteArray} {x : Option FV} (hS : S.Nodup) (hs : s ∈ S) : (S.map fun t => szV (d.put s x t)).sum + szV (d s) = (S.map fun t => szV (d t)).sum + szV x := by
  induction S with
  | nil => cases hs
  | cons a S ih =>
    rw [List.nodup_cons] at hS
    simp only [List.map_cons, List.sum_cons]
    by_cases hx : s = a
    · subst hx
      rw [Disk.put_same]
      have : (S.map fun t => szV (d.put s x t)) = (S.map fun t => szV (d t)) := by
        apply List.map_congr_left
        intro t ht
        rw [Disk.put_ne _ _ (fun e => hS.1 (by rw [← e]; exact ht))]
      rw [this]; omega
    · have h1 := ih hS.2 ((List.mem_cons.1 hs).resolve_left hx)
      rw [Disk.put_ne _ _ fun e => hx e.symm]; omega
theorem used_put {ps ps' : List PF} {s : ByteArray} {x : Option FV} (hn : (ps.map PF.name).Nodup) (hn' : (ps'.map PF.name).Nodup) (h : lk ps' = (lk ps).put s x) : usedL ps' + szV (lk ps s) = usedL ps + szV x := by
  obtain ⟨S, hS, hs, hp⟩ : ∃ S : List ByteArray, S.Nodup ∧ s ∈ S ∧ ∀ p ∈ ps, p.name ∈ S := by
    by_cases e : s ∈ ps.map PF.name
    · exact ⟨ps.map PF.name, hn, e, fun p hp => List.mem_map_of_mem hp⟩
    · exact ⟨s :: ps.map PF.name, List.nodup_cons.2 ⟨e, hn⟩, List.mem_cons_self, fun p hp => List.mem_cons_of_mem _ (List.mem_map_of_mem hp)⟩
  have hp' : ∀ p ∈ ps', p.name ∈ S := fun p hp2 => by
    by_cases e : p.name = s
    · rw [e]; exact hs
    · have h1 := lk_mem hp2
      rw [h, Disk.put_ne _ _ e] at h1
      cases h2 : lk ps p.name with
      | none => exact absurd h2 h1
      | some v =>
        obtain ⟨l1, q, l2, rfl, h3, -⟩ := lk_split h2
        rw [← h3]; exact hp q (by simp)
  rw [used_sum hS hn hp, used_sum hS hn' hp', h]
  exact sum_put' hS hs
theorem used_same {ps ps' : List PF} (hn : (ps.map PF.name).Nodup) (hn' : (ps'.map PF.name).Nodup) (h : lk ps' = lk ps) : usedL ps' = usedL ps := by
  have := used_put (s := ⟨#[]⟩) (x := lk ps ⟨#[]⟩) hn hn' (by rw [h, put_id rfl])
  omega
theorem pair_D {ps : List PF} {nk nt : ByteArray} (hne : nk ≠ nt) (hn : (ps.map PF.name).Nodup) (h : ∀ s, s ≠ nk → s ≠ nt → lk ps s = none) : (∀ p ∈ ps, p.name = nk ∨ p.name = nt) ∧ ps.length ≤ 2 ∧ usedL ps = szV (lk ps nk) + szV (lk ps nt) := by
  have h1 : ∀ p ∈ ps, p.name = nk ∨ p.name = nt := fun p hp => by
    by_cases e : p.name = nk
    · exact .inl e
    · by_cases e2 : p.name = nt
      · exact .inr e2
      · exact absurd (h _ e e2) (lk_mem hp)
  refine ⟨h1, ?_, ?_⟩
  · have := len_sub (S := [nk, nt]) hn fun x hx => by
      obtain ⟨p, hp, rfl⟩ := List.mem_map.1 hx
      have := h1 p hp
      simpa using this
    simpa using this
  · have := used_sum (S := [nk, nt]) (by simp [hne]) hn fun p hp => by have := h1 p hp; simpa using this
    simpa using this
end Go.Proofs.YtibalgfejfjndaaGreatDoor
end

/-! compact.copied, whatever hits the files, and however little room there is. -/
section
set_option linter.unusedVariables false
set_option linter.unusedSimpArgs false
namespace Go.Proofs.YtibalgfejfjndaaGreatDoor
open Go.RowKit Go.Sort
attribute [local go_sem] Oper.semAt_some

/-- How copied ends early. -/
def CpE (ps ps' : List PF) (lim arm arm' : Int) (nt : ByteArray) (dn' : Bool) (tot : Nat) (er : Int) : Prop :=
  (∀ t, t ≠ nt → lk ps' t = lk ps t) ∧ (arm = 0 → arm' = 0) ∧ ((er = 13 ∧ dn' = true ∧ arm ≠ 0) ∨ (er = 14 ∧ dn' = false ∧ (∃ v, lk ps' nt = some v) ∧ lim < (tot : Int) + (usedL ps : Int)))
structure CpX (w : World) (F M : Nat) (ps : List PF) (lim arm : Int) (nt : ByteArray) (L0 L1 tot : Nat) (W : World) : Prop where
  out : ∃ ps' clock' arm' dn' er, Went w F M ps ps' clock' lim arm' dn' W ∧ CpE ps ps' lim arm arm' nt dn' tot er ∧ (∀ k ∈ foot F M ps', k < w.heap.size ∨ (w.heap.size + 6 ≤ k ∧ k < L0) ∨ L1 + 2 ≤ k) ∧
    Boxed W (w.heap.size + 1) 27 (.int .u64 0) ∧ Boxed W (w.heap.size + 2) 3 (.int .i64 0) ∧ Boxed W (w.heap.size + 3) 33 (.int .i64 er)
theorem CpX.carry {w : World} {F M : Nat} {ps : List PF} {lim arm : Int} {nt : ByteArray} {L0 L1 tot : Nat} {W W' : World} {S : Nat → Prop} (h : CpX w F M ps lim arm nt L0 L1 tot W) (hL : w.heap.size + 6 ≤ L0) (hL1 : L0 ≤ L1)
    (hk : Kept S W W') (hS : ∀ k, S k → L1 ≤ k ∧ k < L1 + 2) : CpX w F M ps lim arm nt L0 L1 tot W' := by
  obtain ⟨ps', c', a', d', er, h1, h2, h3, h4, h5, h6⟩ := h.out
  refine ⟨ps', c', a', d', er, h1.off hk fun k e => ⟨fun hm => ?_, ?_⟩, h2, h3, hk.heap h4 fun e => ?_, hk.heap h5 fun e => ?_, hk.heap h6 fun e => ?_⟩
  · have := h3 k hm; have := hS k e; omega
  · have := hS k e; omega
  · have := hS _ e; omega
  · have := hS _ e; omega
  · have := hS _ e; omega
/-- What copied answers, and leaves. -/
def CopPost (w : World) (F M : Nat) (nm : ByteArray) (ps : List PF) (lim arm : Int) (qs : List PV) (e : Ending) (w' : World) : Prop :=
  ∃ (n s : Nat) (er : Int), e = .returned (.tuple #[.int .u64 (n : Nat), .int .i64 (s : Nat), .int .i64 er]) ∧ ∃ ps' clock' arm' dn', Went w F M ps ps' clock' lim arm' dn' w' ∧
    (CpE ps ps' lim arm arm' (nm ++ dotT) dn' (frLen (cutF qs)) er ∨
     (er = 0 ∧ dn' = false ∧ (arm = 0 → arm' = 0) ∧ ∃ parts, Cut qs parts ∧ n = parts.length ∧ s = frLen parts ∧ lk ps' = (lk ps).put (nm ++ dotT) (some (frsL 0 (parts.map bytesP), (frsL 0 (parts.map bytesP)).length))) ∨
     (er = 13 ∧ dn' = true ∧ arm ≠ 0 ∧ ∀ t, t ≠ nm ++ dotT → lk ps' t = lk ps t))
/-- Three results stored. -/
theorem res3 {W : World} {B1 B2 B3 : Nat} {t1 t2 t3 : TypeId} {u1 u2 u3 : Value} (h1 : Boxed W B1 t1 u1) (h2 : Boxed W B2 t2 u2) (h3 : Boxed W B3 t3 u3) (p12 : ¬ B1 = B2) (p13 : ¬ B1 = B3) (p23 : ¬ B2 = B3) (a b c : Value) :
    Boxed (((W.setCell ⟨B1, 0, none⟩ a).setCell ⟨B2, 0, none⟩ b).setCell ⟨B3, 0, none⟩ c) B1 t1 a ∧ Boxed (((W.setCell ⟨B1, 0, none⟩ a).setCell ⟨B2, 0, none⟩ b).setCell ⟨B3, 0, none⟩ c) B2 t2 b ∧ Boxed (((W.setCell ⟨B1, 0, none⟩ a).setCell ⟨B2, 0, none⟩ b).setCell ⟨B3, 0, none⟩ c) B3 t3 c ∧ Kept (fun k => k = B1 ∨ k = B2 ∨ k = B3) W (((W.setCell ⟨B1, 0, none⟩ a).setCell ⟨B2, 0, none⟩ b).setCell ⟨B3, 0, none⟩ c) := by
  have k1 := kF W B1 0 a
  have r1 := h1.set a
  have q2 := k1.heap h2 (fun e => p12 e.symm)
  have q3 := k1.heap h3 (fun e => p13 e.symm)
  obtain ⟨V1, hV1⟩ : ∃ V1, V1 = W.setCell ⟨B1, 0, none⟩ a := ⟨_, rfl⟩
  rw [← hV1] at k1 r1 q2 q3 ⊢
  have k2 := kF V1 B2 0 b
  have r1' := k2.heap r1 p12
  have r2 := (show Boxed V1 B2 t2 u2 from q2).set b
  have q3' := k2.heap q3 (fun e => p23 e.symm)
  obtain ⟨V2, hV2⟩ : ∃ V2, V2 = V1.setCell ⟨B2, 0, none⟩ b := ⟨_, rfl⟩
  rw [← hV2] at k2 r1' r2 q3' ⊢
  have k3 := kF V2 B3 0 c
  exact ⟨k3.heap r1' p13, k3.heap r2 p23, (show Boxed V2 B3 t3 u3 from q3').set c, ((k1.mono fun _ _ e => .inl e).trans' (k2.mono fun _ _ e => .inr (.inl e))).trans' (k3.mono fun _ _ e => .inr (.inr e))⟩
end Go.Proofs.YtibalgfejfjndaaGreatDoor
end

/-! compact.Compact, whatever hits the files, and however little room there is. -/
section
set_option linter.unusedVariables false
set_option linter.unusedSimpArgs false
namespace Go.Proofs.YtibalgfejfjndaaGreatDoor
open Go.RowKit

end Go.Proofs.YtibalgfejfjndaaGreatDoor
end

/-! couranthelp: Seq over the names, of at most so many. -/
section
set_option linter.unusedVariables false
set_option linter.unusedSimpArgs false
namespace Go.Proofs.YtibalgfejfjndaaGreatDoor
open Go.RowKit Go.Sort
attribute [local go_sem] Oper.semAt_some

theorem own_weak {w : World} {b b' : Nat} {e : TypeId} {size n : Nat} {v : Value} {xs : List Value} (hb : b' ≤ b) (h : w.ownsRow b e size v n xs) : w.ownsRow b' e size v n xs :=
  ⟨h.1, h.2.imp id fun ⟨g, cap, cur, a1, a2, a3⟩ => ⟨g, cap, cur, a1, Nat.le_trans hb a2, a3⟩⟩
theorem infoStr : (Tryz.prog.info? 9).map (fun i => (i.zero, i.size, i.bytes)) = some (some (.string ⟨#[]⟩), 1, 16) := by kernel_rfl
structure SqI (q : Nat) (w W : World) (B D : Nat) (pre : List (List UInt8)) : Prop where
  b0 : Boxed W B 3 (.int .i64 (q : Nat))
  b1 : Boxed W (B + 1) 114 (.slice none 0 0)
  b2 : Boxed W (B + 2) 4 (.bool false)
  b3 : ∃ v, Boxed W (B + 3) 114 v ∧ W.ownsRow (D + 2) 9 1 v pre.length (pre.map encStr)
  kept : Kept (fun _ => False) w W
theorem SqI.carry {q : Nat} {w W W' : World} {B D : Nat} {pre : List (List UInt8)} (h : SqI q w W B D pre) (hk : Kept (fun k => False ∨ k = D ∨ k = D + 1) W W') (hB : B = w.heap.size) (hD : B + 4 ≤ D) : SqI q w W' B D pre := by
  have no : ∀ k, k < D → ¬ (False ∨ k = D ∨ k = D + 1) := by rintro k hk (h | h | h) <;> first | exact h.elim | omega
  obtain ⟨v, hv, ho⟩ := h.b3
  refine ⟨hk.heap h.b0 (no _ (by omega)), hk.heap h.b1 (no _ (by omega)), hk.heap h.b2 (no _ (by omega)), ⟨v, hk.heap hv (no _ (by omega)), own_kept ho hk fun k e => ?_⟩, h.kept.trans hk fun i hi hm => absurd hm (no i (by omega))⟩
  have := own_ge ho k e
  rintro (h | h | h) <;> first | exact h.elim | omega
end Go.Proofs.YtibalgfejfjndaaGreatDoor
end

/-! couranthelp: Spoil, In; Start of files that are up. -/
section
set_option linter.unusedVariables false
set_option linter.unusedSimpArgs false
namespace Go.Proofs.YtibalgfejfjndaaGreatDoor
open Go.RowKit

/-- A block of bytes, whatever they are. -/
def Raw (w : World) (B n : Nat) : Prop := ∃ cur : Array Value, w.heap[B]? = some (.cells cur 5 (0, 0)) ∧ n ≤ cur.size ∧ ∀ j : Nat, j < n → ∃ z : Int, cur[j]? = some (.int .u8 z)
theorem Raw.cell {w : World} {B n : Nat} (h : Raw w B n) (j : Nat) (hj : j < n) : ∃ z : Int, w.cell? ⟨B, j, none⟩ = some (.int .u8 z) := by
  obtain ⟨cur, h1, h2, h3⟩ := h
  obtain ⟨z, hz⟩ := h3 j hj
  exact ⟨z, by simp [World.cell?, h1, hz]⟩
theorem Raw.frozen {w : World} {B n : Nat} (h : Raw w B n) (j : Nat) : w.frozen? ⟨B, j, none⟩ = false := by
  obtain ⟨cur, h1, h2, h3⟩ := h
  simp [World.frozen?, h1]
theorem Raw.set {w : World} {B n : Nat} (h : Raw w B n) (j : Nat) (z : Int) : Raw (w.setCell ⟨B, j, none⟩ (.int .u8 z)) B n := by
  obtain ⟨cur, h1, h2, h3⟩ := h
  refine ⟨cur.setIfInBounds j (.int .u8 z), ?_, by simpa using h2, fun i hi => ?_⟩
  · simp only [World.setCell, Array.getElem?_modify, if_true, h1]; rfl
  · by_cases hij : j = i
    · subst hij
      exact ⟨z, by rw [Array.getElem?_setIfInBounds_self_of_lt (by omega)]⟩
    · obtain ⟨y, hy⟩ := h3 i hi
      exact ⟨y, by rw [Array.getElem?_setIfInBounds_ne hij]; exact hy⟩
theorem Raw.of_own {w : World} {base n g cap : Nat} {xs : List UInt8} (h : w.ownsRow base 5 1 (.slice (some ⟨g, 0, none⟩) n cap) n (xs.map bv)) : Raw w g n := by
  rcases h.2 with ⟨h1, _⟩ | ⟨g', cap', cur, h1, h2, h3, h4, h5, h6, h7⟩
  · cases h1
  · cases h1
    refine ⟨cur, h3, by omega, fun j hj => ?_⟩
    have hl := h.1
    simp at hl
    have hu : (xs.map bv)[j]? = some (bv (xs[j]'(by omega))) := by rw [List.getElem?_map, List.getElem?_eq_getElem (by omega)]; rfl
    rw [← h7, List.getElem?_take_of_lt (by omega)] at hu
    exact ⟨_, by simpa [bv] using hu⟩
set_option maxRecDepth 100000 in
set_option maxHeartbeats 2000000 in
theorem spoil_some (w : World) (B n c : Nat) (hn : n ≤ 1000000000) (h : Raw w B n) :
    Calls Tryz.prog 30 #[.slice (some ⟨B, 0, none⟩) n c] w fun e w' => e = .returned (.tuple #[]) ∧ Kept (fun k => k = B) w w' := by
  have H := Lib.hid h
  clear h
  have hn9 : (n : Int) ≤ 1000000000 := by omega
  go_enter Tryz.func30, Tryz.ntmps30
  go_wp2_with fail
  go_loopw [2] (fun i wr => ∃ k : Nat, k ≤ n ∧ i = .int .i64 k ∧ Hid (Raw wr B n) ∧ Hid (Kept (fun k => k = B) w wr)) (fun i _ => n - (intOf i).toNat)
  case atStart => exact ⟨0, by omega, rfl, H, Lib.hid (Kept.refl _ _)⟩
  case round =>
    obtain ⟨k, hk, rfl, hR, hK⟩ := hrel
    by_cases hlt : k < n
    · have hk9 : (k : Int) < (n : Int) := by omega
      obtain ⟨z, hc⟩ := hR.out.cell k hlt
      have hf := hR.out.frozen k
      go_wp2
      go_roundw
      case rel => exact ⟨k + 1, by omega, by go_num, Lib.hid (hR.out.set k _), Lib.hid (hK.out.trans' (kF wr B k _))⟩
      case measure => simp [intOf]; omega
    · obtain rfl : k = n := by omega
      go_wp2
      go_end0
      exact ⟨rfl, hK.out⟩
set_option maxHeartbeats 2000000 in
theorem spoil_none (w : World) (A : Option Addr) (c : Nat) :
    Calls Tryz.prog 30 #[.slice A 0 c] w fun e w' => e = .returned (.tuple #[]) ∧ w' = w := by
  go_enter Tryz.func30, Tryz.ntmps30
  go_wp2_with fail
  go_loop [2] (fun i => i = .int .i64 0) (fun _ => 0)
  case atStart => rfl
  case round =>
    obtain rfl := hrel
    go_wp2
    go_end0
    exact ⟨rfl, rfl⟩
/-- Spoil of bytes of the call's own. -/
theorem spoil_own (w : World) (base n : Nat) (v : Value) (xs : List UInt8) (hn : n ≤ 1000000000) (h : w.ownsRow base 5 1 v n (xs.map bv)) :
    Calls Tryz.prog 30 #[v] w fun e w' => e = .returned (.tuple #[]) ∧ Kept (fun k => v.ownBlock = some k) w w' := by
  rcases h.2 with ⟨rfl, rfl⟩ | ⟨g, cap, cur, rfl, _⟩
  · exact (spoil_none w none 0).mono fun e w' ⟨he, hw⟩ => ⟨he, by rw [hw]; exact Kept.refl _ _⟩
  · refine (spoil_some w g n cap hn (Raw.of_own h)).mono fun e w' ⟨he, hw⟩ => ⟨he, hw.mono fun k _ e => by rw [e]; rfl⟩

set_option maxHeartbeats 1000000 in
theorem start_up (w : World) (F M : Nat) (ps : List PF) (clock : Nat) (lim arm : Int) (h : FilesAt w F M ps clock lim arm false) :
    Calls Tryz.prog 47 #[.pointer (some ⟨F, 0, none⟩)] w fun e w' => e = .returned (.tuple #[]) ∧ Went w F M ps ps clock lim 0 false w' := by
  have H := Lib.hid h
  have h3 := FB.c3 h.fb
  have h2 := FB.c2 h.fb
  have f3 := FB.fz h.fb 3
  have f2 := FB.fz h.fb 2
  clear h
  go_enter Tryz.func47, Tryz.ntmps47
  go_wp2
  go_end0
  exact ⟨rfl, H.out.own (lim' := lim) (arm' := 0) (dn' := false) ((kF w F 3 _).trans' (kF _ F 2 _)) (FB.s2 (FB.s3 (show FB w F M lim arm false from H.out.fb) false) 0) H.out.lim0 (by omega), ((kF w F 3 _).trans' (kF _ F 2 _)).ofF, fun k hk => .inl hk⟩
end Go.Proofs.YtibalgfejfjndaaGreatDoor
end

/-! courantlaw23.CompactPlays, plain: the disk of a store, and what bounds it. -/
section
set_option linter.unusedVariables false
set_option linter.unusedSimpArgs false
namespace Go.Proofs.YtibalgfejfjndaaGreatDoor
open Go.RowKit

def nAb : ByteArray := ⟨#[97, 46, 98]⟩
theorem nAb_full : fullB (nAb ++ dotK) = true := by kernel_rfl
theorem nAbTfull : fullB (nAb ++ dotT) = true := by kernel_rfl
theorem nAbKT : nAb ++ dotK ≠ nAb ++ dotT := by decide
abbrev nabK : ByteArray := nAb ++ dotK
abbrev nabT : ByteArray := nAb ++ dotT
def frs (parts : List (List PV)) : List UInt8 := frsL 0 (parts.map bytesP)
theorem frs_snoc (parts : List (List PV)) (u : List PV) : frs (parts ++ [u]) = frs parts ++ frameB parts.length (bytesP u) := by
  unfold frs
  rw [List.map_append, List.map_cons, List.map_nil, frsL_snoc, Nat.zero_add, List.length_map]
/-- A store's disk: its frames, and what is behind them. -/
structure DK (d : Disk) (parts : List (List PV)) (t : List UInt8) (st : Bool) : Prop where
  only : ∀ s, s ≠ nabK → s ≠ nabT → d s = none
  k : (d nabK = none ∧ parts = [] ∧ t = []) ∨ ∃ sf, d nabK = some (frs parts ++ t, sf) ∧ (frs parts).length ≤ sf ∧ (st = true → sf = (frs parts ++ t).length)
/-- What bounds it. -/
structure Bd (i : Nat) (parts : List (List PV)) (ms : List PV) : Prop where
  pl : parts.length ≤ 50 * i
  fl : parts.flatten.length ≤ 50 * i
  by_ : (frs parts).length ≤ 3200 * i
  fit : ∀ l ∈ parts, l.length ≤ 10000 ∧ (bytesP l).length ≤ 32768 ∧ ∀ p ∈ l, p.key.size ≤ 32768 ∧ p.b.length ≤ 32768
  ml : ms.length ≤ 50 * i
  mw : ∀ p ∈ ms, wt p ≤ 3000
  msum : sumP ms ≤ 3100 * i
  fold : foldP parts = ms.map PV.core
theorem Bd.mono {i j : Nat} {parts : List (List PV)} {ms : List PV} (h : Bd i parts ms) (hij : i ≤ j) : Bd j parts ms :=
  ⟨by have := h.pl; omega, by have := h.fl; omega, by have := h.by_; omega, h.fit, by have := h.ml; omega, h.mw, by have := h.msum; omega, h.fold⟩
theorem Bd.zero : Bd 0 [] [] := ⟨by simp, by simp, by simp [frs, frsL], by simp, by simp, by simp, by simp [sumP], rfl⟩
/-- What is behind the frames: nothing, or some of the frame that was under way. -/
def Tl (i : Nat) (parts : List (List PV)) (t : List UInt8) (un : Bool) (hs : List PV) : Prop :=
  t = [] ∨ ∃ u m, un = true ∧ t = (frameB parts.length (bytesP u)).take m ∧ Bd i (parts ++ [u]) hs
theorem Tl.mono {i j : Nat} {parts : List (List PV)} {t : List UInt8} {un : Bool} {hs : List PV} (h : Tl i parts t un hs) (hij : i ≤ j) : Tl j parts t un hs :=
  h.imp id fun ⟨u, m, h1, h2, h3⟩ => ⟨u, m, h1, h2, h3.mono hij⟩
theorem Tl.take {i : Nat} {parts : List (List PV)} {t : List UInt8} {un : Bool} {hs : List PV} (h : Tl i parts t un hs) (k : Nat) : Tl i parts (t.take k) un hs := by
  rcases h with rfl | ⟨u, m, h1, rfl, h3⟩
  · exact .inl (by simp)
  · exact .inr ⟨u, min k m, h1, by rw [List.take_take], h3⟩
/-- A fall. -/
theorem DK.fell {d d' : Disk} {parts : List (List PV)} {t : List UInt8} {st : Bool} (h : DK d parts t st) (hf : ∀ s, FellV (d s) (d' s)) : ∃ k, DK d' parts (t.take k) true := by
  have ho : ∀ s, s ≠ nabK → s ≠ nabT → d' s = none := fun s h1 h2 => by
    have := hf s
    rw [h.only s h1 h2] at this
    exact this.of_none
  rcases h.k with ⟨h1, h2, h3⟩ | ⟨sf, h1, h2, -⟩
  · have := hf nabK
    rw [h1] at this
    exact ⟨0, ho, .inl ⟨this.of_none, h2, by simp⟩⟩
  · have := hf nabK
    rw [h1] at this
    obtain ⟨k, h3, h4, h5⟩ := this.of_some
    have e : (frs parts ++ t).take k = frs parts ++ t.take (k - (frs parts).length) := by rw [List.take_append, List.take_of_length_le (by omega)]
    refine ⟨k - (frs parts).length, ho, .inr ⟨k, by rw [h5, e], by omega, fun _ => ?_⟩⟩
    rw [← e, List.length_take]; omega
/-- What Open reads of it. -/
theorem DK.kis {d : Disk} {i : Nat} {parts : List (List PV)} {t : List UInt8} {un : Bool} {ms hs : List PV} (h : DK d parts t true) (hb : Bd i parts ms) (ht : Tl i parts t un hs) (hi : i ≤ 60) :
    ∃ parts' t', KIs (d nabK) parts' t' ∧ ((parts' = parts) ∨ (un = true ∧ Bd i parts' hs)) ∧ DK (openD d nabK nabT parts') parts' [] true ∧ (openD d nabK nabT parts') nabT = none ∧ (openD d nabK nabT parts' nabK = none ∧ parts' = [] ∨ openD d nabK nabT parts' nabK = some (frs parts', (frs parts').length)) := by
  have key : ∀ (parts' : List (List PV)) (t' : List UInt8), KIs (d nabK) parts' t' → (∀ sf, d nabK = some (frs parts' ++ t', sf) → (frs parts').length ≤ sf) → DK (openD d nabK nabT parts') parts' [] true ∧ (openD d nabK nabT parts') nabT = none ∧ (openD d nabK nabT parts' nabK = none ∧ parts' = [] ∨ openD d nabK nabT parts' nabK = some (frs parts', (frs parts').length)) := by
    intro parts' t' hk hsf
    have ho : ∀ x : Option FV, ∀ s, s ≠ nabK → s ≠ nabT → ((d.put nabT none).put nabK x) s = none := fun x s h1 h2 => by
      rw [Disk.put_ne _ _ h1, Disk.put_ne _ _ h2]; exact h.only s h1 h2
    rcases hk.is with ⟨h1, h2, h3⟩ | ⟨sf, h1⟩
    · rw [openD_none h1]
      have e1 : (d.put nabT none) nabK = none := by rw [Disk.put_ne _ _ nAbKT]; exact h1
      refine ⟨⟨fun s g1 g2 => by rw [Disk.put_ne _ _ g2]; exact h.only s g1 g2, .inl ⟨e1, h2, rfl⟩⟩, Disk.put_same _ _ _, .inl ⟨e1, h2⟩⟩
    · rw [openD_some h1]
      have h4 := hsf sf h1
      have e1 : min sf (frsL 0 (parts'.map bytesP)).length = (frs parts').length := Nat.min_eq_right h4
      simp only [e1]
      refine ⟨⟨fun s g1 g2 => ho _ s g1 g2, .inr ⟨_, ?_, Nat.le_refl _, fun _ => by rw [List.append_nil]⟩⟩, ?_, .inr (Disk.put_same _ _ _)⟩
      · rw [Disk.put_same, List.append_nil]; rfl
      · rw [Disk.put_ne _ _ (fun e => nAbKT e.symm)]; exact Disk.put_same _ _ _
  have kfit : ∀ (parts' : List (List PV)) (t' : List UInt8) (ns : List PV), Bd i parts' ns → ((d nabK = none ∧ parts' = [] ∧ t' = []) ∨ ∃ sf, d nabK = some (frs parts' ++ t', sf)) → (∃ (y : List UInt8) (m : Nat), y.length ≤ 32768 ∧ m < (frameB parts'.length y).length ∧ t' = (frameB parts'.length y).take m) → KIs (d nabK) parts' t' := fun parts' t' ns h1 h2 h3 =>
    ⟨h2, h3, h1.fit, by have := h1.pl; omega, by have := h1.fl; omega⟩
  have knil : ∀ n, ∃ (y : List UInt8) (m : Nat), y.length ≤ 32768 ∧ m < (frameB n y).length ∧ ([] : List UInt8) = (frameB n y).take m := fun n => ⟨[], 0, by simp, by rw [frameB_len]; simp, rfl⟩
  rcases ht with rfl | ⟨u, m, hun, rfl, hbu⟩
  · have hk : KIs (d nabK) parts [] := kfit parts [] ms hb (h.k.imp id fun ⟨sf, h1, _, _⟩ => ⟨sf, h1⟩) (knil _)
    refine ⟨parts, [], hk, .inl rfl, key parts [] hk fun sf h1 => ?_⟩
    rcases h.k with ⟨h2, _⟩ | ⟨sf', h2, h3, _⟩
    · rw [h2] at h1; cases h1
    · rw [h2] at h1; injection h1 with h1; injection h1 with _ h1; omega
  · by_cases hm : m < (frameB parts.length (bytesP u)).length
    · have hk : KIs (d nabK) parts ((frameB parts.length (bytesP u)).take m) := kfit parts _ ms hb (h.k.imp id fun ⟨sf, h1, _, _⟩ => ⟨sf, h1⟩) ⟨bytesP u, m, (hbu.fit u (by simp)).2.1, hm, rfl⟩
      refine ⟨parts, _, hk, .inl rfl, key parts _ hk fun sf h1 => ?_⟩
      rcases h.k with ⟨h2, _⟩ | ⟨sf', h2, h3, _⟩
      · rw [h2] at h1; cases h1
      · rw [h2] at h1; injection h1 with h1; injection h1 with _ h1; omega
    · rw [List.take_of_length_le (by omega)] at h
      rcases h.k with ⟨h2, h3, h4⟩ | ⟨sf, h2, h3, h4⟩
      · have := congrArg List.length h4
        rw [frameB_len] at this
        simp at this
      · rw [← frs_snoc] at h2 h4
        have hk : KIs (d nabK) (parts ++ [u]) [] := kfit (parts ++ [u]) [] hs hbu (.inr ⟨sf, by rw [List.append_nil]; exact h2⟩) (knil _)
        refine ⟨parts ++ [u], [], hk, .inr ⟨hun, hbu⟩, key (parts ++ [u]) [] hk fun sf' h5 => ?_⟩
        rw [List.append_nil, h2] at h5
        injection h5 with h5
        injection h5 with _ h5
        have := h4 rfl
        omega
end Go.Proofs.YtibalgfejfjndaaGreatDoor
end

/-! Pairs by rising keys; cut and put again they are the same; what bounds the frames, onwards. -/
section
set_option linter.unusedVariables false
set_option linter.unusedSimpArgs false
namespace Go.Proofs.YtibalgfejfjndaaGreatDoor
open Go.RowKit

theorem lt_tri {a b : List UInt8} (h1 : ¬ a < b) (h2 : ¬ b < a) : a = b := List.le_antisymm (List.not_lt.1 h2) (List.not_lt.1 h1)
theorem kb_inj {a b : ByteArray} (h : kb a = kb b) : a = b := by rw [← kb_back a, h, kb_back]
/-- By rising keys, and none that goes. -/
def SoC (L : List Core) : Prop := L.Pairwise (fun a b => kb a.1 < kb b.1) ∧ ∀ x ∈ L, x.2.2 = false
theorem tw_take {α : Type} (p : α → Bool) (l : List α) : l.take (l.takeWhile p).length = l.takeWhile p := by
  induction l with
  | nil => rfl
  | cons a l ih =>
    by_cases h : p a = true
    · rw [List.takeWhile_cons_of_pos h, List.length_cons, List.take_succ_cons, ih]
    · rw [List.takeWhile_cons_of_neg h]; rfl
theorem tw_drop {α : Type} (p : α → Bool) (l : List α) : l.drop (l.takeWhile p).length = l.dropWhile p := by
  induction l with
  | nil => rfl
  | cons a l ih =>
    by_cases h : p a = true
    · rw [List.takeWhile_cons_of_pos h, List.length_cons, List.drop_succ_cons, ih, List.dropWhile_cons_of_pos h]
    · rw [List.takeWhile_cons_of_neg h, List.dropWhile_cons_of_neg h]; rfl
theorem tw_mem {α : Type} {p : α → Bool} {l : List α} {x : α} (h : x ∈ l.takeWhile p) : p x = true := by
  induction l with
  | nil => cases h
  | cons a l ih =>
    by_cases ha : p a = true
    · rw [List.takeWhile_cons_of_pos ha] at h
      rcases List.mem_cons.1 h with rfl | h
      · exact ha
      · exact ih h
    · rw [List.takeWhile_cons_of_neg ha] at h; cases h
theorem tw_all {α : Type} {p : α → Bool} {l : List α} (h : ∀ a ∈ l, p a = true) : l.takeWhile p = l := by
  induction l with
  | nil => rfl
  | cons a l ih => rw [List.takeWhile_cons_of_pos (h a List.mem_cons_self), ih fun b hb => h b (List.mem_cons_of_mem _ hb)]
theorem SoC.split {L : List Core} (h : SoC L) (x : ByteArray) : ∃ A B, L = A ++ B ∧ coreAt L x = A.length ∧ (∀ a ∈ A, kb a.1 < kb x) ∧ (∀ b ∈ B, ¬ kb b.1 < kb x) := by
  refine ⟨L.takeWhile fun c => decide (kb c.1 < kb x), L.dropWhile fun c => decide (kb c.1 < kb x), (List.takeWhile_append_dropWhile).symm, rfl, fun a ha => of_decide_eq_true (tw_mem (p := fun c : Core => decide (kb c.1 < kb x)) ha), fun b hb => ?_⟩
  cases hB : L.dropWhile fun c => decide (kb c.1 < kb x) with
  | nil => rw [hB] at hb; cases hb
  | cons c B =>
    rw [hB] at hb
    have hc : ¬ kb c.1 < kb x := by
      have h1 := List.head?_dropWhile_not (fun c : Core => decide (kb c.1 < kb x)) L
      rw [hB] at h1
      simpa using h1
    rcases List.mem_cons.1 hb with rfl | hb
    · exact hc
    · have h2 := h.1
      rw [← List.takeWhile_append_dropWhile (p := fun c : Core => decide (kb c.1 < kb x)) (l := L), List.pairwise_append] at h2
      have h3 := h2.2.1
      rw [hB, List.pairwise_cons] at h3
      exact fun e => hc (List.lt_trans (h3.1 b hb) e)
theorem SoC.put1 {L : List Core} (h : SoC L) (c : Core) : SoC (put1 L c) := by
  obtain ⟨A, B, rfl, hA, h1, h2⟩ := h.split c.1
  obtain ⟨D, hD, hD2⟩ : ∃ D, (A ++ B).drop (if coreIs (A ++ B) c.1 then coreAt (A ++ B) c.1 + 1 else coreAt (A ++ B) c.1) = D ∧ (∀ d ∈ D, d ∈ B ∧ kb c.1 < kb d.1) ∧ D.Pairwise (fun a b => kb a.1 < kb b.1) := by
    have hp := (List.pairwise_append.1 h.1).2.1
    cases B with
    | nil =>
      refine ⟨[], ?_, by simp, List.Pairwise.nil⟩
      rw [List.append_nil, List.drop_of_length_le]
      rw [List.append_nil] at hA
      split <;> omega
    | cons b B =>
      rw [List.pairwise_cons] at hp
      by_cases he : b.1 = c.1
      · have hi : coreIs (A ++ b :: B) c.1 = true := by unfold coreIs; rw [hA, List.getElem?_append_right (Nat.le_refl _), Nat.sub_self]; simp [he]
        refine ⟨B, ?_, fun d hd => ⟨List.mem_cons_of_mem _ hd, he ▸ hp.1 d hd⟩, hp.2⟩
        rw [hi, if_pos rfl, hA, List.drop_append, List.drop_of_length_le (by omega), show A.length + 1 - A.length = 1 by omega]
        rfl
      · have hi : coreIs (A ++ b :: B) c.1 = false := by unfold coreIs; rw [hA, List.getElem?_append_right (Nat.le_refl _), Nat.sub_self]; simp [he]
        have hlt : kb c.1 < kb b.1 := by
          by_cases e : kb c.1 < kb b.1
          · exact e
          · exact absurd (kb_inj (lt_tri (h2 b List.mem_cons_self) e)) he
        refine ⟨b :: B, ?_, fun d hd => ⟨hd, ?_⟩, List.pairwise_cons.2 hp⟩
        · rw [hi, if_neg (by simp), hA, List.drop_left]
        · rcases List.mem_cons.1 hd with rfl | hd
          · exact hlt
          · exact List.lt_trans hlt (hp.1 d hd)
  have hAs := (List.pairwise_append.1 h.1).1
  have hT : (A ++ B).take (coreAt (A ++ B) c.1) = A := by rw [hA, List.take_left]
  unfold Go.Proofs.YtibalgfejfjndaaGreatDoor.put1
  rw [hD, hT]
  refine ⟨?_, fun x hx => ?_⟩
  · rw [List.pairwise_append, List.pairwise_append]
    refine ⟨⟨hAs, ?_, fun a ha b hb => ?_⟩, hD2.2, fun a ha d hd => ?_⟩
    · split
      · exact List.Pairwise.nil
      · simp
    · split at hb
      · cases hb
      · rw [List.mem_singleton.1 hb]; exact h1 a ha
    · have hd2 := (hD2.1 d hd).2
      rcases List.mem_append.1 ha with ha | ha
      · exact List.lt_trans (h1 a ha) hd2
      · split at ha
        · cases ha
        · rw [List.mem_singleton.1 ha]; exact hd2
  · rcases List.mem_append.1 hx with hx | hx
    · rcases List.mem_append.1 hx with hx | hx
      · exact h.2 x (List.mem_append_left _ hx)
      · split at hx
        · cases hx
        · rw [List.mem_singleton.1 hx]
    · exact h.2 x (List.mem_append_right _ (hD2.1 x hx).1)
theorem SoC.putC {L : List Core} (h : SoC L) (M : List Core) : SoC (putC L M) := by
  induction M generalizing L with
  | nil => exact h
  | cons c M ih => exact ih (h.put1 c)
theorem SoC.nil : SoC [] := ⟨List.Pairwise.nil, by simp⟩
theorem SoC.foldP (parts : List (List PV)) : SoC (foldP parts) := by
  have : ∀ (parts : List (List PV)) (L : List Core), SoC L → SoC (parts.foldl (fun L l => Go.Proofs.YtibalgfejfjndaaGreatDoor.putC L (l.map PV.core)) L) := by
    intro parts
    induction parts with
    | nil => exact fun L h => h
    | cons l parts ih => exact fun L h => ih _ (h.putC _)
  exact this parts [] SoC.nil
/-- What rises, put onto what is less, is behind it. -/
theorem SoC.again {L M : List Core} (h : SoC (L ++ M)) : Go.Proofs.YtibalgfejfjndaaGreatDoor.putC L M = L ++ M := by
  induction M generalizing L with
  | nil => rw [List.append_nil]; rfl
  | cons c M ih =>
    have hc := h.2 c (by simp)
    have hL : ∀ a ∈ L, kb a.1 < kb c.1 := fun a ha => (List.pairwise_append.1 h.1).2.2 a ha c List.mem_cons_self
    have hat : coreAt L c.1 = L.length := by
      unfold coreAt
      rw [tw_all fun a ha => decide_eq_true (hL a ha)]
    have h1 : Go.Proofs.YtibalgfejfjndaaGreatDoor.put1 L c = L ++ [c] := by
      have hi : coreIs L c.1 = false := by unfold coreIs; rw [hat, List.getElem?_eq_none (Nat.le_refl _)]
      obtain ⟨k, b, g⟩ := c
      simp only at hc hat hi
      subst hc
      unfold Go.Proofs.YtibalgfejfjndaaGreatDoor.put1
      simp only [hat, hi, List.take_length, Bool.false_eq_true, if_false, List.drop_length, List.append_nil]
    show Go.Proofs.YtibalgfejfjndaaGreatDoor.putC (Go.Proofs.YtibalgfejfjndaaGreatDoor.put1 L c) M = _
    rw [h1, ih (by rw [List.append_assoc]; exact h), List.append_assoc]
    rfl
theorem foldP_flat (parts : List (List PV)) : foldP parts = Go.Proofs.YtibalgfejfjndaaGreatDoor.putC [] (parts.flatten.map PV.core) := by
  have : ∀ (parts : List (List PV)) (L : List Core), parts.foldl (fun L l => Go.Proofs.YtibalgfejfjndaaGreatDoor.putC L (l.map PV.core)) L = Go.Proofs.YtibalgfejfjndaaGreatDoor.putC L (parts.flatten.map PV.core) := by
    intro parts
    induction parts with
    | nil => exact fun L => rfl
    | cons l parts ih =>
      intro L
      rw [List.foldl_cons, ih, List.flatten_cons, List.map_append]
      unfold Go.Proofs.YtibalgfejfjndaaGreatDoor.putC
      rw [List.foldl_append]
  exact this parts []
theorem cut_fold {qs : List PV} {parts parts0 : List (List PV)} (h : Cut qs parts) (h0 : qs.map PV.core = foldP parts0) : foldP parts = qs.map PV.core := by
  rw [foldP_flat, h.flat, h0]
  have := (SoC.foldP parts0).again (L := []) (M := foldP parts0)
  simpa using this
end Go.Proofs.YtibalgfejfjndaaGreatDoor
end

/-! A log's segments, cut: pure. -/
section
set_option linter.unusedVariables false
set_option linter.unusedSimpArgs false
namespace Go.Proofs.YtibalgfejfjndaaGreatDoor

def segCut : List Prt → Nat → List Prt
  | [], _ => []
  | p :: ps, n => if n ≤ p.2.length then [(p.1, p.2.take n)] else p :: segCut ps (n - p.2.length)
def logCut (ps : List Prt) (n : Nat) : List Prt := if segCut ps n = [(0, [])] then [] else segCut ps n
/-- What Open makes of the segments that lie there. -/
def logNorm (ps : List Prt) : List Prt := match ps.getLast? with
  | none => []
  | some p => if p.2 = [] ∧ (1 < ps.length ∨ p.1 = 0) then ps.dropLast else ps
theorem logNorm_nil : logNorm [] = [] := rfl
theorem logNorm_snoc (ps : List Prt) (p : Prt) : logNorm (ps ++ [p]) = if p.2 = [] ∧ (ps ≠ [] ∨ p.1 = 0) then ps else ps ++ [p] := by
  unfold logNorm
  rw [List.getLast?_concat]
  simp only [List.length_append, List.length_cons, List.length_nil, List.dropLast_concat]
  have : 1 < ps.length + (0 + 1) ↔ ps ≠ [] := by rw [← List.length_pos_iff]; omega
  simp only [this]
theorem segCut_skip : ∀ (ps qs : List Prt) (n : Nat), (∀ p ∈ ps, True) → (allR ps).length < n → segCut (ps ++ qs) n = ps ++ segCut qs (n - (allR ps).length)
  | [], qs, n, _, _ => by simp [allR]
  | p :: ps, qs, n, _, h => by
    have e : (allR (p :: ps)).length = p.2.length + (allR ps).length := by simp [allR]
    rw [e] at h
    rw [List.cons_append, segCut, if_neg (by omega), segCut_skip ps qs (n - p.2.length) (fun _ _ => trivial) (by omega), e, List.cons_append]
    congr 3
    omega
theorem segCut_end : ∀ (ps qs : List Prt), ps ≠ [] → (∀ p ∈ ps, p.2 ≠ []) → segCut (ps ++ qs) (allR ps).length = ps
  | [], _, h, _ => absurd rfl h
  | [p], qs, _, _ => by simp [segCut, allR]
  | p :: q :: r, qs, _, h => by
    have hq := List.length_pos_iff.2 (h q (by simp))
    have e : (allR (p :: q :: r)).length = p.2.length + (allR (q :: r)).length := by simp [allR]
    have e2 : 0 < (allR (q :: r)).length := by simp [allR]; omega
    rw [List.cons_append, segCut, if_neg (by omega), e, Nat.add_sub_cancel_left, segCut_end (q :: r) qs (by simp) fun x hx => h x (List.mem_cons_of_mem _ hx)]
theorem Cont.ne {ps : List Prt} {p : Prt} {r : List Prt} (h : Cont (ps ++ p :: r)) : ∀ q ∈ ps, q.2 ≠ [] := by
  induction ps with
  | nil => intro q hq; cases hq
  | cons x ps ih =>
    intro q hq
    rcases List.mem_cons.1 hq with rfl | hq
    · cases ps with
      | nil => exact h.2.1
      | cons y z => exact h.2.1
    · exact ih (Cont.tail h) q hq
theorem Cont.left : ∀ {a b : List Prt}, Cont (a ++ b) → Cont a
  | [], _, _ => trivial
  | [_], _, _ => trivial
  | p :: q :: r, b, h => ⟨h.1, h.2.1, Cont.left (a := q :: r) h.2.2⟩
theorem Cont.right : ∀ {a b : List Prt}, Cont (a ++ b) → Cont b
  | [], _, h => h
  | p :: a, b, h => Cont.right (a := a) (Cont.tail h)
/-- What Open makes of what is left is what the cut makes of all. -/
theorem norm_cut {ps rest : List Prt} {f : Nat} {rs more : List (List UInt8)} (h : Cont (ps ++ (f, rs ++ more) :: rest)) : logNorm (ps ++ [(f, rs)]) = logCut (ps ++ (f, rs ++ more) :: rest) ((allR ps).length + rs.length) := by
  rw [logNorm_snoc]
  have hne := Cont.ne h
  by_cases hrs : rs = []
  · subst hrs
    by_cases hps : ps = []
    · subst hps
      by_cases hf : f = 0
      · subst hf
        simp [logCut, segCut, allR]
      · rw [if_neg (by simp [hf])]
        simp only [logCut, List.nil_append, allR, List.flatMap_nil, List.length_nil, segCut, Nat.add_zero, Nat.zero_le, if_true, List.take_zero]
        rw [if_neg (by simp [hf])]
    · rw [if_pos ⟨rfl, .inl hps⟩]
      unfold logCut
      rw [List.length_nil, Nat.add_zero, segCut_end ps _ hps hne]
      rw [if_neg fun e => hne (0, []) (by rw [e]; simp) rfl]
  · rw [if_neg fun e => hrs e.1]
    have hl := List.length_pos_iff.2 hrs
    unfold logCut
    rw [segCut_skip ps _ _ (fun _ _ => trivial) (by omega), Nat.add_sub_cancel_left, segCut, if_pos (show rs.length ≤ (f, rs ++ more).2.length by simp)]
    simp only [List.take_left]
    have hx : ps ++ [(f, rs)] ≠ [(0, [])] := fun e => by
      cases ps with
      | nil => simp at e; exact hrs e.2
      | cons a b => simp at e
    rw [if_neg hx]
theorem allR_append (a b : List Prt) : allR (a ++ b) = allR a ++ allR b := by simp [allR]
/-- A record more. -/
def logPut (ps : List Prt) (b : List UInt8) : List Prt := match ps.getLast? with
  | none => [(0, [b])]
  | some p => if 2048 ≤ szP p then ps ++ [(endP p, [b])] else ps.dropLast ++ [(p.1, p.2 ++ [b])]
theorem logPut_nil (b : List UInt8) : logPut [] b = [(0, [b])] := rfl
theorem logPut_snoc (ps : List Prt) (p : Prt) (b : List UInt8) : logPut (ps ++ [p]) b = if 2048 ≤ szP p then ps ++ [p] ++ [(endP p, [b])] else ps ++ [(p.1, p.2 ++ [b])] := by
  unfold logPut
  rw [List.getLast?_concat]
  simp only [List.dropLast_concat]
theorem Cont.turn : ∀ {ps : List Prt} {p p' : Prt}, Cont (ps ++ [p]) → p'.1 = p.1 → Cont (ps ++ [p'])
  | [], _, _, _, _ => trivial
  | [q], p, p', h, e => ⟨by rw [e]; exact h.1, h.2.1, trivial⟩
  | q :: r :: s, p, p', h, e => ⟨h.1, h.2.1, Cont.turn (ps := r :: s) h.2.2 e⟩
theorem nxtP_snoc (ps : List Prt) (p : Prt) : nxtP (ps ++ [p]) = endP p := by unfold nxtP; rw [List.getLast?_concat]; rfl
theorem szP_ne {p : Prt} (h : 2048 ≤ szP p) : p.2 ≠ [] := fun e => by
  rw [szP_eq, e] at h; simp [sumR] at h
theorem logPut_cont {ps : List Prt} (b : List UInt8) (h : Cont ps) : Cont (logPut ps b) := by
  rcases List.eq_nil_or_concat ps with rfl | ⟨a, q, rfl⟩
  · trivial
  · rw [List.concat_eq_append] at h ⊢
    rw [logPut_snoc]
    split
    · next hs =>
      refine Cont.snoc h (fun _ => (nxtP_snoc a q).symm) fun x hx => ?_
      rcases List.mem_append.1 hx with hx | hx
      · exact Cont.ne h x hx
      · simp at hx; subst hx; exact szP_ne hs
    · exact Cont.turn h rfl
theorem logPut_all (ps : List Prt) (b : List UInt8) : allR (logPut ps b) = allR ps ++ [b] := by
  rcases List.eq_nil_or_concat ps with rfl | ⟨a, q, rfl⟩
  · simp [logPut, allR]
  · rw [List.concat_eq_append, logPut_snoc]
    split <;> simp [allR]
theorem logPut_fst (ps : List Prt) (b : List UInt8) : fstP (logPut ps b) = fstP ps := by
  rcases List.eq_nil_or_concat ps with rfl | ⟨a, q, rfl⟩
  · rfl
  · rw [List.concat_eq_append, logPut_snoc]
    split
    · cases a <;> simp [fstP]
    · cases a <;> simp [fstP]
theorem logPut_ne (ps : List Prt) (b : List UInt8) : logPut ps b ≠ [] := by
  intro e
  have := congrArg allR e
  rw [logPut_all] at this
  simp [allR] at this
end Go.Proofs.YtibalgfejfjndaaGreatDoor
end

/-! A log's files, fallen: pure. -/
section
set_option linter.unusedVariables false
set_option linter.unusedSimpArgs false
namespace Go.Proofs.YtibalgfejfjndaaGreatDoor

/-- Some beginning of the record that would stand there. -/
def PartF (n : Nat) (t : List UInt8) : Prop := ∃ (y : List UInt8) (m : Nat), y.length ≤ 32768 ∧ m < (frameB n y).length ∧ t = (frameB n y).take m
theorem PartF.nil (n : Nat) : PartF n [] := ⟨[], 0, by simp, by rw [frameB_len]; simp, by simp⟩
theorem PartF.take {n : Nat} {t : List UInt8} (h : PartF n t) (k : Nat) : PartF n (t.take k) := by
  obtain ⟨y, m, h1, h2, rfl⟩ := h
  exact ⟨y, min k m, h1, by omega, by rw [List.take_take]⟩
theorem frsL_cut (n : Nat) (l : List (List UInt8)) (hl : ∀ b ∈ l, b.length ≤ 32768) (k : Nat) (hk : k ≤ (frsL n l).length) :
    ∃ j t, j ≤ l.length ∧ (frsL n l).take k = frsL n (l.take j) ++ t ∧ PartF (n + j) t ∧ (∀ i, i ≤ l.length → (frsL n (l.take i)).length ≤ k → i ≤ j) := by
  induction l generalizing n k with
  | nil => exact ⟨0, [], Nat.le_refl _, by simp [frsL], PartF.nil _, fun i hi _ => hi⟩
  | cons b l ih =>
    have hb := hl b List.mem_cons_self
    by_cases h : k < (frameB n b).length
    · refine ⟨0, (frameB n b).take k, by simp, ?_, ⟨b, k, hb, h, rfl⟩, fun i hi h2 => ?_⟩
      · simp only [frsL, List.take_zero, List.nil_append]
        rw [List.take_append_of_le_length (by omega)]
      · cases i with
        | zero => exact Nat.le_refl _
        | succ i =>
          simp only [List.take_succ_cons, frsL, List.length_append] at h2
          omega
    · simp only [frsL, List.length_append] at hk
      obtain ⟨j, t, h1, h2, h3, h4⟩ := ih (n + 1) (fun x hx => hl x (List.mem_cons_of_mem _ hx)) (k - (frameB n b).length) (by omega)
      refine ⟨j + 1, t, by simp; omega, ?_, by rw [show n + (j + 1) = n + 1 + j by omega]; exact h3, fun i hi h5 => ?_⟩
      · simp only [frsL, List.take_succ_cons]
        rw [List.take_append, List.take_of_length_le (by omega), h2, List.append_assoc]
      · cases i with
        | zero => omega
        | succ i =>
          simp only [List.take_succ_cons, frsL, List.length_append] at h5
          simp only [List.length_cons] at hi
          have := h4 i (by omega) (by omega)
          omega
/-- The records are short. -/
def ShortR (ps : List Prt) : Prop := ∀ p ∈ ps, ∀ b ∈ p.2, b.length ≤ 32768
/-- A log's files behind a fall. -/
theorem LogD.fell {d d' : Disk} {nm : ByteArray} {ps : List Prt} {p : Prt} {t : List UInt8} {sf : Nat} (h : LogD d nm (ps ++ [p]) t sf) (hf : ∀ s, FellV (d s) (d' s)) (hc : Cont (ps ++ [p])) (h64 : p.1 < 18446744073709551616) (hs : ShortR (ps ++ [p])) (ht : PartF (endP p) t) :
    ∃ j t', j ≤ p.2.length ∧ LogD d' nm (ps ++ [(p.1, p.2.take j)]) t' (szP (p.1, p.2.take j) + t'.length) ∧ PartF (p.1 + j) t' ∧ (∀ i, i ≤ p.2.length → (frsL p.1 (p.2.take i)).length ≤ sf → i ≤ j) := by
  have hp := h p.1 h64
  rw [lookP_last hc] at hp
  obtain ⟨k, hk1, hk2, hk3⟩ : ∃ k, sf ≤ k ∧ k ≤ (frsP p ++ t).length ∧ d' (fileB nm p.1) = some ((frsP p ++ t).take k, k) := by
    rcases hf (fileB nm p.1) with ⟨e, -⟩ | ⟨b, s, k, e, h1, h2, h3⟩
    · rw [hp] at e; cases e
    · rw [hp] at e
      simp only [Option.some.injEq, Prod.mk.injEq] at e
      obtain ⟨rfl, rfl⟩ := e
      exact ⟨k, h1, h2, h3⟩
  have hoth : ∀ v, v < 18446744073709551616 → v ≠ p.1 → d' (fileB nm v) = d (fileB nm v) := fun v hv hne => by
    have hv' := h v hv
    rcases hf (fileB nm v) with ⟨e, e2⟩ | ⟨b, s, k, e, h1, h2, h3⟩
    · rw [e, e2]
    · have hw : ∃ q, s = b.length ∧ lookP (ps ++ [p]) t sf v = some (b, s) ∧ True ∧ q = v := by
        refine ⟨v, ?_, by rw [← hv', e], trivial, rfl⟩
        rw [e] at hv'
        have : ∀ (ps : List Prt), v ≠ p.1 → some (b, s) = lookP (ps ++ [p]) t sf v → s = b.length := by
          intro ps
          induction ps with
          | nil => intro hne hx; simp [lookP, hne] at hx
          | cons x r ih =>
            intro hne hx
            rw [List.cons_append] at hx
            obtain ⟨y, z, hyz⟩ : ∃ y z, r ++ [p] = y :: z := by cases r with
              | nil => exact ⟨_, _, rfl⟩
              | cons a b => exact ⟨_, _, rfl⟩
            rw [hyz, lookP, ← hyz] at hx
            by_cases hvx : v = x.1
            · rw [if_pos hvx] at hx
              simp only [Option.some.injEq, Prod.mk.injEq] at hx
              rw [hx.1, hx.2]; rfl
            · rw [if_neg hvx] at hx
              exact ih hne hx
        exact this ps hne hv'
      obtain ⟨-, hs', -⟩ := hw
      have : k = b.length := by omega
      subst this
      rw [h3, e, List.take_length, hs']
  have fin : ∀ (q : Prt) (t' : List UInt8), q.1 = p.1 → (frsP p ++ t).take k = frsP q ++ t' → LogD d' nm (ps ++ [q]) t' (szP q + t'.length) := fun q t' hq he v hv => by
    by_cases hvp : v = p.1
    · subst hvp
      have hk4 : k = szP q + t'.length := by
        have e1 := congrArg List.length he
        have e2 : (frsP q ++ t').length = szP q + t'.length := List.length_append
        have e3 : ((frsP p ++ t).take k).length = min k (frsP p ++ t).length := List.length_take
        omega
      rw [hk3, he, ← hq, lookP_last (Cont.turn hc hq), hk4]
    · rw [hoth v hv hvp, h v hv, lookP_turn hq hvp]
  have hsp := hs p (by simp)
  by_cases hkp : (frsP p).length ≤ k
  · refine ⟨p.2.length, t.take (k - (frsP p).length), Nat.le_refl _, ?_, ?_, fun i hi _ => hi⟩
    · rw [List.take_length]
      exact fin p _ rfl (by rw [List.take_append, List.take_of_length_le hkp])
    · exact ht.take _
  · obtain ⟨j, t', h1, h2, h3, h4⟩ := frsL_cut p.1 p.2 hsp k (by have : (frsP p).length = (frsL p.1 p.2).length := rfl; omega)
    refine ⟨j, t', h1, fin (p.1, p.2.take j) t' rfl ?_, h3, fun i hi h5 => h4 i hi (by omega)⟩
    rw [List.take_append_of_le_length (by omega)]
    exact h2
theorem LogD.fell_nil {d d' : Disk} {nm : ByteArray} {t : List UInt8} {sf : Nat} (h : LogD d nm [] t sf) (hf : ∀ s, FellV (d s) (d' s)) : LogD d' nm [] [] 0 := fun v hv => by
  have := h v hv
  rcases hf (fileB nm v) with ⟨e, e2⟩ | ⟨b, s, k, e, -⟩
  · rw [e2]; rfl
  · rw [e] at this; cases this
end Go.Proofs.YtibalgfejfjndaaGreatDoor
end

/-! What lies there, against what should: pure. -/
section
set_option linter.unusedVariables false
set_option linter.unusedSimpArgs false
namespace Go.Proofs.YtibalgfejfjndaaGreatDoor

/-- D, what lies there, is a beginning of G with at least s records. -/
def Under (D G : List Prt) (s : Nat) : Prop := Cont G ∧ ((D = [] ∧ fstP G = 0 ∧ s = 0) ∨ ∃ ps f rs more rest, D = ps ++ [(f, rs)] ∧ G = ps ++ (f, rs ++ more) :: rest ∧ s ≤ (allR ps).length + rs.length)
/-- So many records of D are safe. -/
def SafeB (D : List Prt) (s sf : Nat) : Prop := ∀ ps p, D = ps ++ [p] → s ≤ (allR D).length ∧ (frsL p.1 (p.2.take (s - (allR ps).length))).length ≤ sf
theorem Under.self {G : List Prt} {s : Nat} (hc : Cont G) (hs : s ≤ (allR G).length) : Under G G s := by
  refine ⟨hc, ?_⟩
  rcases List.eq_nil_or_concat G with rfl | ⟨ps, p, rfl⟩
  · exact .inl ⟨rfl, rfl, by simpa [allR] using hs⟩
  · rw [List.concat_eq_append] at hs ⊢
    exact .inr ⟨ps, p.1, p.2, [], [], rfl, by simp, by rw [allR_append] at hs; simpa [allR] using hs⟩
theorem Under.all {D G : List Prt} {s : Nat} (h : Under D G s) : s ≤ (allR D).length ∧ (allR D).length ≤ (allR G).length ∧ allR D = (allR G).take (allR D).length := by
  obtain ⟨hc, ⟨rfl, -, rfl⟩ | ⟨ps, f, rs, more, rest, rfl, rfl, h1⟩⟩ := h
  · simp [allR]
  · rw [allR_append, allR_append]
    have e : allR [(f, rs)] = rs := by simp [allR]
    have e2 : allR ((f, rs ++ more) :: rest) = rs ++ (more ++ allR rest) := by simp [allR]
    rw [e, e2, ← List.append_assoc]
    refine ⟨by simpa using h1, by simp, ?_⟩
    rw [List.take_left]
/-- What Open makes of D is what the cut makes of G. -/
theorem Under.norm {D G : List Prt} {s : Nat} (h : Under D G s) : logNorm D = logCut G (allR D).length := by
  obtain ⟨hc, ⟨rfl, h1, rfl⟩ | ⟨ps, f, rs, more, rest, rfl, rfl, h1⟩⟩ := h
  · cases G with
    | nil => rfl
    | cons p r =>
      have h2 : p.1 = 0 := by simpa [fstP] using h1
      rw [logNorm_nil]
      unfold logCut
      rw [if_pos (by simp [segCut, allR, h2])]
  · rw [norm_cut hc, allR_append]
    simp [allR]
theorem Under.fst {D G : List Prt} {s : Nat} (h : Under D G s) : fstP (logNorm D) = fstP G ∨ (logNorm D = [] ∧ fstP G = 0) := by
  obtain ⟨hc, ⟨rfl, h1, rfl⟩ | ⟨ps, f, rs, more, rest, rfl, rfl, h1⟩⟩ := h
  · exact .inr ⟨rfl, h1⟩
  · rw [logNorm_snoc]
    split
    · next he =>
      cases ps with
      | nil =>
        rcases he.2 with h2 | h2
        · exact absurd rfl h2
        · exact .inr ⟨rfl, by simpa [fstP] using h2⟩
      | cons a b => exact .inl (by simp [fstP])
    · cases ps <;> exact .inl (by simp [fstP])
theorem logNorm_all (D : List Prt) : allR (logNorm D) = allR D := by
  rcases List.eq_nil_or_concat D with rfl | ⟨ps, p, rfl⟩
  · rfl
  · rw [List.concat_eq_append, logNorm_snoc]
    split
    · next he => rw [allR_append]; simp [allR, he.1]
    · rfl
theorem logNorm_cont {D : List Prt} (h : Cont D) : Cont (logNorm D) := by
  rcases List.eq_nil_or_concat D with rfl | ⟨ps, p, rfl⟩
  · trivial
  · rw [List.concat_eq_append] at h ⊢
    rw [logNorm_snoc]
    split
    · exact Cont.left h
    · exact h
theorem logNorm_again (D : List Prt) (h : Cont D) : logNorm (logNorm D) = logNorm D := by
  rcases List.eq_nil_or_concat D with rfl | ⟨ps, p, rfl⟩
  · rfl
  · rw [List.concat_eq_append] at h ⊢
    rw [logNorm_snoc]
    split
    · next he =>
      rcases List.eq_nil_or_concat ps with rfl | ⟨a, q, rfl⟩
      · rfl
      · rw [List.concat_eq_append] at h ⊢
        rw [logNorm_snoc, if_neg fun e => Cont.ne h q (by simp) e.1]
    · next he => rw [logNorm_snoc, if_neg he]
/-- The last segment cut further. -/
theorem Under.cut {ps : List Prt} {p : Prt} {G : List Prt} {s sf j : Nat} (h : Under (ps ++ [p]) G s) (hs : SafeB (ps ++ [p]) s sf) (hj : j ≤ p.2.length) (hi : ∀ i, i ≤ p.2.length → (frsL p.1 (p.2.take i)).length ≤ sf → i ≤ j) :
    Under (ps ++ [(p.1, p.2.take j)]) G s := by
  obtain ⟨hc, ⟨h1, -⟩ | ⟨qs, f, rs, more, rest, h1, rfl, h2⟩⟩ := h
  · simp at h1
  · obtain ⟨rfl, h3⟩ := List.append_inj' h1 rfl
    simp only [List.cons.injEq, and_true] at h3
    subst h3
    obtain ⟨h4, h5⟩ := hs ps (f, rs) rfl
    have h6 := hi (s - (allR ps).length) (by simp only at *; omega) h5
    refine ⟨hc, .inr ⟨ps, f, rs.take j, rs.drop j ++ more, rest, rfl, by rw [← List.append_assoc, List.take_append_drop], ?_⟩⟩
    rw [List.length_take]
    simp only at hj
    omega
theorem Under.put {G : List Prt} {s : Nat} (b : List UInt8) {D : List Prt} (h : Under D G s) : Under D (logPut G b) s := by
  obtain ⟨hc, ⟨rfl, h1, rfl⟩ | ⟨ps, f, rs, more, rest, rfl, rfl, h1⟩⟩ := h
  · exact ⟨logPut_cont b hc, .inl ⟨rfl, by rw [logPut_fst, h1], rfl⟩⟩
  · refine ⟨logPut_cont b hc, .inr ?_⟩
    rcases List.eq_nil_or_concat rest with rfl | ⟨a, q, rfl⟩
    · rw [logPut_snoc]
      split
      · exact ⟨ps, f, rs, more, [(endP (f, rs ++ more), [b])], rfl, by simp, h1⟩
      · exact ⟨ps, f, rs, more ++ [b], [], rfl, by simp, h1⟩
    · rw [List.concat_eq_append, show ps ++ (f, rs ++ more) :: (a ++ [q]) = (ps ++ (f, rs ++ more) :: a) ++ [q] by simp, logPut_snoc]
      split
      · exact ⟨ps, f, rs, more, a ++ [q] ++ [(endP q, [b])], rfl, by simp, h1⟩
      · exact ⟨ps, f, rs, more, a ++ [(q.1, q.2 ++ [b])], rfl, by simp, h1⟩
end Go.Proofs.YtibalgfejfjndaaGreatDoor
end

/-! append onto rows of whatever plain structures, of the call's own; a cell of such a row set anew. -/
section
set_option linter.unusedVariables false
set_option linter.unusedSimpArgs false
namespace Go.Proofs.YtibalgfejfjndaaGreatDoor
open Go.RowKit

/-- What append wants of a slice's type. -/
structure ElemT (S E : TypeId) (size bytes : Nat) : Prop where
  u : Tryz.prog.underlying S = some (.slice E)
  i : ∃ i z, Tryz.prog.info? E = some i ∧ i.zero = some z ∧ i.size = size ∧ i.bytes = bytes ∧ z.cells.size = size
  s : 0 < size
  b : bytes ≤ 100
section
variable {w : World} {o : Oper} {a : Act} {S E : TypeId} {size bytes : Nat}
theorem ElemT.of {z : Value} (u : Tryz.prog.underlying S = some (.slice E)) (hi : (Tryz.prog.info? E).map (fun i => (i.zero, i.size, i.bytes)) = some (some z, size, bytes)) (hz : z.cells.size = size) (hs : 0 < size) (hb : bytes ≤ 100) : ElemT S E size bytes := by
  obtain ⟨i0, h1, h2, h3, h4⟩ := info_parts hi
  exact ⟨u, ⟨i0, z, h1, h2, h3, h4, hz⟩, hs, hb⟩
end
/-- Where an append leaves its row: in the old one, or in a new block, and nothing has turned. -/
def Grew (w w' : World) (v v' : Value) : Prop := (v'.ownBlock = v.ownBlock ∧ w.grownBy w' v.ownBlock) ∨ (v'.ownBlock = some w.heap.size ∧ w.grownBy w' none)
theorem Grew.row {w w' : World} {v v' : Value} (h : Grew w w' v v') : w.grownBy w' v.ownBlock := by
  rcases h with h | h
  · exact h.2
  · exact ⟨h.2.os, h.2.tape, h.2.output, h.2.size, fun k hk _ => h.2.block k hk (by simp)⟩
theorem Grew.kept {w w' : World} {v v' : Value} (h : Grew w w' v v') : Kept (fun k => v.ownBlock = some k) w w' := (Kept.refl _ w).grown h.row fun k e _ => e
section
variable {w : World} {o : Oper} {a : Act} {S E : TypeId} {size bytes : Nat}
theorem run_append_e (H : ElemT S E size bytes) (ty : TypeId) (base : Nat) (v : Value) (n : Nat) (ys : List Value) (hown : w.ownsRow base E size v n ys)
    (A : Option Addr) (m c : Nat) (xs : List Value) (hC : Cs w A xs) (hm : xs.length = m * size) (hone : ∀ u ∈ xs, u.oneCell' = true) (hA : A = none → c = 0) (h63 : n + m ≤ 1000000) (hbase : base ≤ w.heap.size) :
    ∃ v' w', (Builtin.append_ #[S, S] ty #[v, .slice A m c]).run Tryz.prog w = .ok v' w' ∧ w'.ownsRow base E size v' (n + m) (ys ++ xs) ∧ Grew w w' v v' := by
  obtain ⟨i0, z, hi, hz0, hz1, hz2, hz3⟩ := H.i
  cases A with
  | none =>
    have h1 := hC.1 rfl
    have h2 := hA rfl
    subst h1; subst h2
    have h3 : m = 0 := by
      rcases Nat.eq_zero_or_pos m with h | h
      · exact h
      · have := Nat.mul_pos h H.s
        simp at hm; omega
    subst h3
    exact ⟨v, w, run_append_owned_none (P := Tryz.prog) (w := w) base S ty E i0 size H.u hi v n ys hown, by simpa using hown, .inl ⟨rfl, rfl, rfl, rfl, Nat.le_refl _, fun _ _ _ => rfl⟩⟩
  | some ad =>
    have hby : (n + m) * bytes ≤ 140737488355328 := Nat.le_trans (Nat.mul_le_mul h63 H.b) (by decide)
    obtain ⟨v', w', hr, h2, h3, h4, h5⟩ := run_append_own_at (P := Tryz.prog) w base S ty E i0 z size bytes H.u hi hz0 hz1 hz2 hz3 H.s v n ys hown ad m c xs hm (hC.2 ad rfl) hone (by unfold maxLen; omega) hby hbase
    refine ⟨v', w', hr, h2, ?_⟩
    rcases h5 with h5 | h5
    · exact .inl ⟨h5, h3⟩
    · refine .inr ⟨h5, ?_⟩
      have holds := fun g hg => hown.cells (g := g) hg
      have hl := hown.1
      rcases hown.2 with ⟨rfl, rfl⟩ | ⟨g, cap, cur, rfl, hbg, hg, hnc, hcm, hcs, ht⟩
      · exact h3
      · by_cases hroom : n + m ≤ cap
        · have hfit : n * i0.size + xs.length ≤ cur.size := by rw [hm, hcs, hz1, ← Nat.add_mul]; exact Nat.mul_le_mul_right _ hroom
          have hr2 := run_append_room (P := Tryz.prog) w S ty E i0 H.u hi g n cap cur hg ad m c xs (by rw [hz1]; exact hm) (hC.2 ad rfl) hone hroom hfit
          rw [hr2] at hr
          injection hr with e1 e2
          subst e1
          have := (Array.getElem?_eq_some_iff.1 hg).1
          simp only [Value.ownBlock, Option.some.injEq] at h5
          omega
        · have hr2 := run_append_grow (P := Tryz.prog) w S ty E i0 z H.u hi hz0 ⟨g, 0, none⟩ n cap ys (by rw [hz1]; exact hl) (holds g rfl) ad m c xs (by rw [hz1]; exact hm) (hC.2 ad rfl) (by omega) (by omega) (growslice_fits (by omega) (by rw [hz2]; exact hby))
          rw [hr2] at hr
          injection hr with e1 e2
          subst e2
          exact ⟨rfl, rfl, rfl, by simp, fun k hk _ => heap_alloc_old w.drew _ hk⟩
theorem wp_append_e (H : ElemT S E size bytes) {K : Act → World → Prop} {Q : Exit → Act → World → Prop} (s x : Operand)
    (ho : o.op = .call { callee := .builtin .append, args := #[s, x], argTypes := #[S, S] })
    (base : Nat) (v : Value) (n : Nat) (ys : List Value) (hs : a.eval s = v) (hown : w.ownsRow base E size v n ys)
    (A : Option Addr) (m c : Nat) (xs : List Value) (hx : a.eval x = .slice A m c) (hC : Cs w A xs) (hm : xs.length = m * size) (hone : ∀ u ∈ xs, u.oneCell' = true) (hA : A = none → c = 0)
    (h63 : n + m ≤ 1000000) (hbase : base ≤ w.heap.size)
    (h : ∀ v' w', w'.ownsRow base E size v' (n + m) (ys ++ xs) → Grew w w' v v' → K (a.put o.dst v') w') : o.wp Tryz.prog a w K Q := by
  obtain ⟨v', w', hr, h2, h3⟩ := run_append_e H o.type base v n ys hown A m c xs hC hm hone hA h63 hbase
  unfold Oper.wp execOp
  simp only [ho, resolve, invoke, builtin, Sem.run_bind, Sem.run_pure, Result.andThen_ok, List.map_toArray, List.map_cons, List.map_nil, hs, hx, hr]
  exact h v' w' h2 h3
theorem wpList_append_e (H : ElemT S E size bytes) {ops : Array Oper} {rest : List Oper} {Q : Exit → Act → World → Prop} (hgd : o.guard = none) (s x : Operand)
    (ho : o.op = .call { callee := .builtin .append, args := #[s, x], argTypes := #[S, S] })
    (base : Nat) (v : Value) (n : Nat) (ys : List Value) (hs : a.eval s = v) (hown : w.ownsRow base E size v n ys)
    (A : Option Addr) (m c : Nat) (xs : List Value) (hx : a.eval x = .slice A m c) (hC : Cs w A xs) (hm : xs.length = m * size) (hone : ∀ u ∈ xs, u.oneCell' = true) (hA : A = none → c = 0)
    (h63 : n + m ≤ 1000000) (hbase : base ≤ w.heap.size)
    (h : ∀ v' w', w'.ownsRow base E size v' (n + m) (ys ++ xs) → Grew w w' v v' → wpList Tryz.prog ops Q rest (a.put o.dst v') w') : wpList Tryz.prog ops Q (o :: rest) a w :=
  wpList_plain hgd fun K hK => wp_append_e H s x ho base v n ys hs hown A m c xs hx hC hm hone hA h63 hbase fun v' w' h2 h3 => hK _ _ (h v' w' h2 h3)
theorem step_append_e (H : ElemT S E size bytes) {ops : Array Oper} {K : Act → World → Prop} {Q : Exit → Act → World → Prop} {X : Prop} (hgd : o.guard = none) (s x : Operand)
    (ho : o.op = .call { callee := .builtin .append, args := #[s, x], argTypes := #[S, S] })
    (base : Nat) (v : Value) (n : Nat) (ys : List Value) (hs : a.eval s = v) (hown : w.ownsRow base E size v n ys)
    (A : Option Addr) (m c : Nat) (xs : List Value) (hx : a.eval x = .slice A m c) (hC : Cs w A xs) (hm : xs.length = m * size) (hone : ∀ u ∈ xs, u.oneCell' = true) (hA : A = none → c = 0)
    (h63 : n + m ≤ 1000000) (hbase : base ≤ w.heap.size)
    (h : ∀ v' w', w'.ownsRow base E size v' (n + m) (ys ++ xs) → Grew w w' v v' → K (a.put o.dst v') w') : if Region.wanted o (yielded ops a.tmps) = true then Oper.wp Tryz.prog o a w K Q else X := by
  have hw : Region.wanted o (yielded ops a.tmps) = true := by simp [Region.wanted, hgd]
  rw [if_pos hw]
  exact wp_append_e H s x ho base v n ys hs hown A m c xs hx hC hm hone hA h63 hbase h
end
/-- One cell of a row of the call's own, set anew. -/
theorem own_set {w : World} {base e size n g : Nat} {v : Value} {xs : List Value} (h : w.ownsRow base e size v n xs) (hg : v.ownBlock = some g) (j : Nat) (u : Value) (hu : u.oneCell' = true) (hj : j < xs.length) :
    (w.setCell ⟨g, j, none⟩ u).ownsRow base e size v n (xs.set j u) := by
  rcases h.2 with ⟨hv, _⟩ | ⟨g', cap, cur, hv, hb, hh, hsz, hc, h63, ht⟩
  · rw [hv] at hg; cases hg
  · rw [hv] at hg
    have e : g' = g := by simpa [Value.ownBlock] using hg
    subst e
    refine ⟨by rw [List.length_set]; exact h.1, .inr ⟨g', cap, cur.setIfInBounds j u, hv, hb, ?_, hsz, hc, by rw [Array.size_setIfInBounds]; exact h63, ?_⟩⟩
    · unfold World.setCell
      simp only [Array.getElem?_modify, if_true, hh]
      rfl
    · rw [Array.toList_setIfInBounds, List.take_set, ht]
end Go.Proofs.YtibalgfejfjndaaGreatDoor
end

/-! How a log lies. -/
section
set_option linter.unusedVariables false
set_option linter.unusedSimpArgs false
namespace Go.Proofs.YtibalgfejfjndaaGreatDoor
open Go.RowKit

/-- A segment as it lies: its first offset, the slice of its records, the records. -/
structure PM where
  first : Nat
  A : Option Addr
  c : Nat
  rs : List BV
def PM.rv (p : PM) : Value := .slice p.A p.rs.length p.c
def PM.prt (p : PM) : Prt := (p.first, p.rs.map BV.b)
def PM.cells (p : PM) : List Value := [.int .u64 (p.first : Nat), p.rv, .int .i64 (szP p.prt : Nat)]
def cellsM (ms : List PM) : List Value := ms.flatMap PM.cells
theorem cellsM_len (ms : List PM) : (cellsM ms).length = ms.length * 3 := by
  induction ms with
  | nil => rfl
  | cons r rs ih =>
    have : (cellsM (r :: rs)).length = 3 + (cellsM rs).length := by simp [cellsM, PM.cells]; omega
    rw [this, ih, List.length_cons]; omega
theorem cellsM_append (a b : List PM) : cellsM (a ++ b) = cellsM a ++ cellsM b := by simp [cellsM]
theorem cellsM_one (ms : List PM) : ∀ u ∈ cellsM ms, u.oneCell' = true := by
  intro u hu
  simp only [cellsM, List.mem_flatMap] at hu
  obtain ⟨r, hr, hu⟩ := hu
  simp only [PM.cells, List.mem_cons, List.not_mem_nil, or_false] at hu
  rcases hu with rfl | rfl | rfl <;> rfl
theorem cellsM_at (ms : List PM) (k : Nat) (r : PM) (h : ms[k]? = some r) (i : Nat) (hi : i < 3) : (cellsM ms)[k * 3 + i]? = r.cells[i]? := by
  induction ms generalizing k with
  | nil => simp at h
  | cons q ms ih =>
    have e : cellsM (q :: ms) = q.cells ++ cellsM ms := rfl
    have hq : q.cells.length = 3 := rfl
    cases k with
    | zero =>
      simp at h; subst h
      rw [e, List.getElem?_append_left (by rw [hq]; omega)]; congr 1; omega
    | succ k =>
      simp at h
      rw [e, List.getElem?_append_right (by rw [hq]; omega), hq, show (k + 1) * 3 + i - 3 = k * 3 + i by omega]
      exact ih k h
/-- The last segment's records and size, set anew. -/
theorem cellsM_last (ms : List PM) (p p' : PM) (hf : p'.first = p.first) : ((cellsM (ms ++ [p])).set (ms.length * 3 + 1) p'.rv).set (ms.length * 3 + 2) (.int .i64 (szP p'.prt : Nat)) = cellsM (ms ++ [p']) := by
  rw [cellsM_append, cellsM_append, ← cellsM_len ms, List.set_append_right _ _ (by omega), List.set_append_right _ _ (by omega)]
  simp [cellsM, PM.cells, hf]
/-- The block of a log. -/
def LB (w : World) (T F : Nat) (nm : ByteArray) (v : Value) (dead : Bool) : Prop := w.heap[T]? = some (.cells #[.pointer (some ⟨F, 0, none⟩), .string nm, v, .bool dead] 50 (0, 0))
section
variable {w w' : World} {T F : Nat} {nm : ByteArray} {v : Value} {dead : Bool}
theorem LB.c0 (h : LB w T F nm v dead) : w.cell? ⟨T, 0, none⟩ = some (.pointer (some ⟨F, 0, none⟩)) := by simp [World.cell?, show w.heap[T]? = _ from h]
theorem LB.c1 (h : LB w T F nm v dead) : w.cell? ⟨T, 1, none⟩ = some (.string nm) := by simp [World.cell?, show w.heap[T]? = _ from h]
theorem LB.c2 (h : LB w T F nm v dead) : w.cell? ⟨T, 2, none⟩ = some v := by simp [World.cell?, show w.heap[T]? = _ from h]
theorem LB.c3 (h : LB w T F nm v dead) : w.cell? ⟨T, 3, none⟩ = some (.bool dead) := by simp [World.cell?, show w.heap[T]? = _ from h]
theorem LB.fz (h : LB w T F nm v dead) (i : Nat) : w.frozen? ⟨T, i, none⟩ = false := by simp [World.frozen?, show w.heap[T]? = _ from h]
theorem LB.s2 (h : LB w T F nm v dead) (u : Value) : LB (w.setCell ⟨T, 2, none⟩ u) T F nm u dead := by
  unfold LB World.setCell; simp only [Array.getElem?_modify, if_true, show w.heap[T]? = _ from h]; rfl
theorem LB.s3 (h : LB w T F nm v dead) (u : Bool) : LB (w.setCell ⟨T, 3, none⟩ (.bool u)) T F nm v u := by
  unfold LB World.setCell; simp only [Array.getElem?_modify, if_true, show w.heap[T]? = _ from h]; rfl
theorem LB.kept {S : Nat → Prop} (h : LB w T F nm v dead) (hk : Kept S w w') (hS : ¬ S T) : LB w' T F nm v dead := hk.heap h hS
theorem LB.lt (h : LB w T F nm v dead) : T < w.heap.size := (Array.getElem?_eq_some_iff.1 (show w.heap[T]? = _ from h)).1
end
set_option maxHeartbeats 1000000 in
theorem slMet_any (w : World) (T F : Nat) (nm : ByteArray) (v : Value) (dead : Bool) (er : Int) (h : LB w T F nm v dead) :
    Calls Tryz.prog 45 #[.pointer (some ⟨T, 0, none⟩), .int .i64 er] w fun e w' => e = .returned (.int .i64 er) ∧ LB w' T F nm v (dead || er == 13) ∧ Kept (fun k => k = T) w w' := by
  have H := Lib.hid h
  have c3 := h.c3
  have f3 := h.fz 3
  clear h
  cases dead
  · go_enter Tryz.func45, Tryz.ntmps45
    go_wp2
    go_ret
    exact ⟨rfl, by simpa using H.out.s3 _, (Kept.refl (fun k => k = T) w).setCell (fun _ => rfl) _⟩
  · go_enter Tryz.func45, Tryz.ntmps45
    go_wp2
    go_ret
    exact ⟨rfl, by simpa using H.out.s3 _, (Kept.refl (fun k => k = T) w).setCell (fun _ => rfl) _⟩
set_option maxHeartbeats 1000000 in
theorem slReady_nil (w : World) : Calls Tryz.prog 42 #[.pointer none] w fun e w' => e = .returned (.int .i64 2) ∧ w' = w := by
  go_enter Tryz.func42, Tryz.ntmps42
  go_wp2
  go_ret
  exact ⟨rfl, rfl⟩
set_option maxHeartbeats 1000000 in
theorem slReady_ok (w : World) (T F M : Nat) (nm : ByteArray) (v : Value) (lim arm : Int) (h : LB w T F nm v false) (hf : FB w F M lim arm false) :
    Calls Tryz.prog 42 #[.pointer (some ⟨T, 0, none⟩)] w fun e w' => e = .returned (.int .i64 0) ∧ w' = w := by
  have c0 := h.c0
  have c3 := h.c3
  have HD := Lib.hid (down_any w F M lim arm false hf)
  clear h hf
  go_enter Tryz.func42, Tryz.ntmps42
  go_wp2_with (go_at_call 11; refine HD.out.mono ?_; rintro e w9 ⟨rfl, rfl⟩)
  go_ret
  exact ⟨rfl, rfl⟩
/-- What is down stays so. -/
def DownPost (w : World) (T F : Nat) (nm : ByteArray) (v : Value) (e : Ending) (w' : World) : Prop := e = .returned (.int .i64 13) ∧ LB w' T F nm v true ∧ Kept (fun k => k = T) w w'
set_option maxHeartbeats 1000000 in
theorem slReady_down (w : World) (T F M : Nat) (nm : ByteArray) (v : Value) (dead dn : Bool) (lim arm : Int) (h : LB w T F nm v dead) (hf : FB w F M lim arm dn) (hd : dead = true ∨ dn = true) :
    Calls Tryz.prog 42 #[.pointer (some ⟨T, 0, none⟩)] w (DownPost w T F nm v) := by
  have c0 := h.c0
  have c3 := h.c3
  have HD := Lib.hid (down_any w F M lim arm dn hf)
  have HM := Lib.hid (slMet_any w T F nm v dead 13 h)
  clear h hf
  cases dead
  · have e : dn = true := by simpa using hd
    subst e
    clear hd
    go_enter Tryz.func42, Tryz.ntmps42
    go_wp2_with (first | (go_at_call 11; refine HD.out.mono ?_; rintro e w9 ⟨rfl, rfl⟩) | (go_at_call 45; refine HM.out.mono ?_; rintro e w9 ⟨rfl, h1, h2⟩; have H1 := Lib.hid h1; have H2 := Lib.hid h2; clear h1 h2))
    go_ret
    exact ⟨rfl, by simpa using H1.out, H2.out⟩
  · clear hd
    go_enter Tryz.func42, Tryz.ntmps42
    go_wp2_with (first | (go_at_call 11; refine HD.out.mono ?_; rintro e w9 ⟨rfl, rfl⟩) | (go_at_call 45; refine HM.out.mono ?_; rintro e w9 ⟨rfl, h1, h2⟩; have H1 := Lib.hid h1; have H2 := Lib.hid h2; clear h1 h2))
    go_ret
    exact ⟨rfl, by simpa using H1.out, H2.out⟩
set_option maxHeartbeats 1000000 in
theorem slSync_nil (w : World) : Calls Tryz.prog 23 #[.pointer none] w fun e w' => e = .returned (.int .i64 2) ∧ w' = w := by
  go_enter Tryz.func23, Tryz.ntmps23
  go_wp2_with (go_at_call 42; refine (slReady_nil _).mono ?_; rintro e w ⟨rfl, rfl⟩)
  go_ret
  exact ⟨rfl, rfl⟩
set_option maxHeartbeats 1000000 in
theorem slAppend_nil (w : World) (b : Value) : Calls Tryz.prog 17 #[.pointer none, b] w fun e w' => e = .returned (.tuple #[.int .u64 0, .int .i64 2]) ∧ w' = w := by
  go_enter Tryz.func17, Tryz.ntmps17
  go_wp2_with (go_at_call 42; refine (slReady_nil _).mono ?_; rintro e w ⟨rfl, rfl⟩)
  go_ret2
  exact ⟨rfl, rfl⟩
set_option maxHeartbeats 1000000 in
theorem slTrim_nil (w : World) (b : Value) : Calls Tryz.prog 24 #[.pointer none, b] w fun e w' => e = .returned (.tuple #[.int .i64 0, .int .i64 2]) ∧ w' = w := by
  go_enter Tryz.func24, Tryz.ntmps24
  go_wp2_with fail
  go_step3
  go_wp2_with (go_at_call 42; refine (slReady_nil _).mono ?_; rintro e w ⟨rfl, rfl⟩)
  rw [Exit.noGoto_ret]
  go_ret2
  exact ⟨rfl, rfl⟩
set_option maxHeartbeats 1000000 in
theorem slFirst_nil (w : World) : Calls Tryz.prog 48 #[.pointer none] w fun e w' => e = .returned (.int .u64 0) ∧ w' = w := by
  go_enter Tryz.func48, Tryz.ntmps48
  go_wp2
  go_ret
  exact ⟨rfl, rfl⟩
set_option maxHeartbeats 1000000 in
theorem slNext_nil (w : World) : Calls Tryz.prog 18 #[.pointer none] w fun e w' => e = .returned (.int .u64 0) ∧ w' = w := by
  go_enter Tryz.func18, Tryz.ntmps18
  go_wp2
  go_ret
  exact ⟨rfl, rfl⟩
set_option maxHeartbeats 1000000 in
theorem slSegments_nil (w : World) : Calls Tryz.prog 54 #[.pointer none] w fun e w' => e = .returned (.slice none 0 0) ∧ w' = w := by
  go_enter Tryz.func54, Tryz.ntmps54
  go_wp2
  go_ret
  exact ⟨rfl, rfl⟩
set_option maxRecDepth 100000 in
set_option maxHeartbeats 1000000 in
theorem slOpen_nil (w : World) (nm : ByteArray) : Calls Tryz.prog 5 #[.pointer none, .string nm] w fun e w' => e = .returned (.tuple #[.pointer none, .int .i64 2]) ∧ w' = w := by
  go_enter Tryz.func5, Tryz.ntmps5
  go_wp2
  go_ret2
  exact ⟨rfl, rfl⟩
end Go.Proofs.YtibalgfejfjndaaGreatDoor
end

/-! seglog.file: how a segment's file is called. -/
section
set_option linter.unusedVariables false
set_option linter.unusedSimpArgs false
namespace Go.Proofs.YtibalgfejfjndaaGreatDoor
open Go.RowKit

def hexAt (v i : Nat) : UInt8 := hexc (v / 2 ^ (4 * (15 - i)) % 16)
theorem hexN_eq : ∀ (n v : Nat), hexN n v = (List.range n).map fun i => hexc (v / 2 ^ (4 * (n - 1 - i)) % 16)
  | 0, v => rfl
  | n + 1, v => by
    rw [hexN, hexN_eq n, List.range_succ, List.map_append]
    congr 1
    · refine List.map_congr_left fun i hi => ?_
      have h := List.mem_range.1 hi
      congr 2
      rw [show (16 : Nat) = 2 ^ 4 from rfl, Nat.div_div_eq_div_mul, ← Nat.pow_add]
      congr 2
      omega
    · simp
def rowH (v i : Nat) : List Value := ((List.range i).map (hexAt v)).map bv ++ List.replicate (16 - i) (.int .u8 0)
theorem rowH_len (v i : Nat) (h : i ≤ 16) : (rowH v i).length = 16 := by simp [rowH]; omega
theorem rowH_at (v i : Nat) (h : i < 16) : (rowH v i)[i]? = some (.int .u8 0) := by
  unfold rowH
  rw [List.getElem?_append_right (by simp), show i - (((List.range i).map (hexAt v)).map bv).length = 0 by simp, List.getElem?_replicate, if_pos (by omega)]
theorem rowH_set (v i : Nat) (h : i < 16) : (rowH v i).set i (bv (hexAt v i)) = rowH v (i + 1) := by
  unfold rowH
  rw [List.set_append_right _ _ (by simp), show 16 - i = (16 - (i + 1)) + 1 by omega, List.replicate_succ]
  simp only [List.length_map, List.length_range, Nat.sub_self, List.set_cons_zero, List.range_succ, List.map_append, List.map_cons, List.map_nil, List.append_assoc, List.singleton_append]
theorem and15 (z : Nat) (h : z < 18446744073709551616) : bits .and .u64 (z : Int) 15 = ((z % 16 : Nat) : Int) := by
  have := bits_and_u64_nat z 15 h (by decide)
  rw [show ((15 : Nat) : Int) = 15 from rfl] at this
  rw [this]
  congr 1
  exact Nat.and_two_pow_sub_one_eq_mod z 4
theorem digit_at (d : Nat) (h : d < 16) : ((⟨#[48, 49, 50, 51, 52, 53, 54, 55, 56, 57, 97, 98, 99, 100, 101, 102]⟩ : ByteArray).data.toList)[d]? = some (hexc d) := by
  have : ∀ d : Fin 16, ((⟨#[48, 49, 50, 51, 52, 53, 54, 55, 56, 57, 97, 98, 99, 100, 101, 102]⟩ : ByteArray).data.toList)[d.val]? = some (hexc d.val) := by decide
  exact this ⟨d, h⟩
theorem digit_get (d : Nat) (h : d < 16) : ∀ hp : d < (⟨#[48, 49, 50, 51, 52, 53, 54, 55, 56, 57, 97, 98, 99, 100, 101, 102]⟩ : ByteArray).size, (⟨#[48, 49, 50, 51, 52, 53, 54, 55, 56, 57, 97, 98, 99, 100, 101, 102]⟩ : ByteArray)[d]'hp = hexc d := by
  have : ∀ d : Fin 16, ∀ hp : d.val < (⟨#[48, 49, 50, 51, 52, 53, 54, 55, 56, 57, 97, 98, 99, 100, 101, 102]⟩ : ByteArray).size, (⟨#[48, 49, 50, 51, 52, 53, 54, 55, 56, 57, 97, 98, 99, 100, 101, 102]⟩ : ByteArray)[d.val]'hp = hexc d.val := by decide
  exact this ⟨d, h⟩
theorem file_str (nm : ByteArray) (v : Nat) : nm ++ (⟨#[46, 115]⟩ : ByteArray) ++ (⟨(hexN 16 v).toArray⟩ : ByteArray) = fileB nm v := by
  apply ByteArray.ext
  rw [ByteArray.data_append, ByteArray.data_append]
  apply Array.toList_inj.1
  simp [fileB, fileL]
set_option maxRecDepth 100000 in
set_option maxHeartbeats 4000000 in
theorem slFile_any (w : World) (nm : ByteArray) (v : Nat) (hn : nm.size ≤ 1000000) (hv : v < 18446744073709551616) : Calls Tryz.prog 10 #[.string nm, .int .u64 (v : Nat)] w fun e w' => e = .returned (.string (fileB nm v)) ∧ Kept (fun _ => False) w w' := by
  have hs3 : ¬ 9223372036854775807 < nm.size + 2 := by omega
  have hmk : (Instr.makeSlice 30 (.int .i64 16) (.int .i64 16)).run Tryz.prog w = .ok (.slice (some ⟨w.heap.size, 0, none⟩) 16 16) (w.alloc (.cells (List.replicate 16 (Value.int .u8 0)).toArray 5)) := make_bytes w 16 (by omega)
  have h0 : (w.alloc (.cells (List.replicate 16 (Value.int .u8 0)).toArray 5)).heap[w.heap.size]? = some (.cells (rowH v 0).toArray 5 (0, 0)) := heap_alloc_new w _
  obtain ⟨W0, hW0⟩ : ∃ W0, W0 = w.alloc (.cells (List.replicate 16 (Value.int .u8 0)).toArray 5) := ⟨_, rfl⟩
  have hk0 : Kept (fun _ => False) w W0 := by rw [hW0]; exact (Kept.refl _ w).alloc _
  obtain ⟨B, hB⟩ : ∃ B, B = w.heap.size := ⟨_, rfl⟩
  rw [← hW0, ← hB] at hmk
  rw [← hW0, ← hB] at h0
  have H0 := Lib.hid h0
  have HK0 := Lib.hid hk0
  have HB := Lib.hid hB
  clear h0 hk0 hB hW0
  go_enter Tryz.func10, Tryz.ntmps10
  go_wp2
  go_loopw [6, 10] (fun _ i wx => ∃ j : Nat, i = .int .i64 j ∧ j ≤ 16 ∧ Hid (wx.heap[B]? = some (.cells (rowH v j).toArray 5 (0, 0))) ∧ Hid (Kept (fun k => k = B) W0 wx)) (fun _ i _ => 16 - (intOf i).toNat)
  case atStart => exact ⟨0, rfl, by omega, H0, Lib.hid (Kept.refl _ _)⟩
  case round =>
    obtain ⟨j, rfl, hj, hH, hK⟩ := hrel
    by_cases hlt : j < 16
    · have hj9 : (j : Int) < 16 := by omega
      have a1 : wr.cell? ⟨B, j, none⟩ = some (.int .u8 0) := by simp [World.cell?, hH.out, rowH_at v j hlt]
      have f1 : wr.frozen? ⟨B, j, none⟩ = false := by simp [World.frozen?, hH.out]
      have hj0 : (j : Int) ≤ 15 := by omega
      obtain ⟨d, hd⟩ : ∃ d, d = v / 2 ^ (4 * (15 - j)) % 16 := ⟨_, rfl⟩
      have hz : v / 2 ^ (4 * (15 - j)) < 18446744073709551616 := Nat.lt_of_le_of_lt (Nat.div_le_self _ _) hv
      have hand : bits .and .u64 ((v : Int) / 2 ^ (4 * (15 - j))) 15 = (d : Int) := by
        rw [hd, ← and15 _ hz]
        congr 1
      have hd16 : d < 16 := by rw [hd]; exact Nat.mod_lt _ (by decide)
      have hdi : (d : Int) < 16 := by omega
      have Hd := Lib.hid hd
      clear hd hz
      go_wp2
      go_roundw
      case rel =>
        refine ⟨j + 1, by go_num, by omega, Lib.hid ?_, Lib.hid (hK.out.trans' (kF _ B j _))⟩
        rw [digit_get d hd16]
        have hh := hH.out
        simp only [World.setCell, Array.getElem?_modify, if_true, hh]
        rw [Hd.out, ← rowH_set v j hlt]
        simp [hexAt, bv]
      case measure => simp [intOf]; omega
    · have hj9 : ¬ (j : Int) < 16 := by omega
      have hj16 : j = 16 := by omega
      have hb : Bs wr (some ⟨B, 0, none⟩) (hexN 16 v) := ⟨fun e => (by cases e), fun ad e i u hu => by
        cases e
        have h1 := hH.out
        rw [hj16] at h1
        have h2 : rowH v 16 = (hexN 16 v).map bv := by rw [hexN_eq]; simp [rowH, hexAt]
        rw [h2] at h1
        have h3 : (⟨B, 0, none⟩ : Addr).add i = ⟨B, i, none⟩ := by unfold Addr.add; split <;> simp_all
        rw [h3]
        simp only [World.cell?, h1]
        simpa using hu⟩
      have hcv := conv_run wr (some ⟨B, 0, none⟩) 16 16 (hexN 16 v) (hexN_len 16 v).symm hb
      have hs4 : ¬ 9223372036854775807 < (nm ++ (⟨#[46, 115]⟩ : ByteArray)).size + 16 := by rw [ByteArray.size_append]; show ¬ 9223372036854775807 < nm.size + 2 + 16; omega
      have hs5 : (⟨(hexN 16 v).toArray⟩ : ByteArray).size = 16 := by show (hexN 16 v).toArray.size = 16; simp [hexN_len]
      clear hb
      go_wp2
      go_ret
      exact ⟨congrArg (fun s => Ending.returned (.string s)) (file_str nm v), HK0.out.trans hK.out fun i hi e => by have := HB.out; omega⟩
end Go.Proofs.YtibalgfejfjndaaGreatDoor
end
