import Derived.Test.YtcifhfdjigfeiaaGreatDoorAb
/-! courantlaw23.CompactPlays, plain: the disk of a store, and what bounds it. -/
section
set_option linter.unusedVariables false
set_option linter.unusedSimpArgs false
namespace Go.Proofs.YtcifhfdjigfeiaaGreatDoor
open Go.RowKit

def nAb : ByteArray := ⟨#[97, 46, 98]⟩
theorem nAb_full : fullB (nAb ++ dotK) = true := by kernel_rfl
theorem nAbTfull : fullB (nAb ++ dotT) = true := by kernel_rfl
theorem nAbKT : nAb ++ dotK ≠ nAb ++ dotT := by decide
abbrev nabK : ByteArray := nAb ++ dotK
abbrev nabT : ByteArray := nAb ++ dotT
def frs (parts : List (List PV)) : List UInt8 := frsL 0 (parts.map bytesP)
theorem frs_snoc (parts : List (List PV)) (u : List PV) : frs (parts ++ [u]) = frs parts ++ frameB parts.length (bytesP u) := by
  unfold frs
  rw [List.map_append, List.map_cons, List.map_nil, frsL_snoc, Nat.zero_add, List.length_map]
/-- A store's disk: its frames, and what is behind them. -/
structure DK (d : Disk) (parts : List (List PV)) (t : List UInt8) (st : Bool) : Prop where
  only : ∀ s, s ≠ nabK → s ≠ nabT → d s = none
  k : (d nabK = none ∧ parts = [] ∧ t = []) ∨ ∃ sf, d nabK = some (frs parts ++ t, sf) ∧ (frs parts).length ≤ sf ∧ (st = true → sf = (frs parts ++ t).length)
/-- What bounds it. -/
structure Bd (i : Nat) (parts : List (List PV)) (ms : List PV) : Prop where
  pl : parts.length ≤ 50 * i
  fl : parts.flatten.length ≤ 50 * i
  by_ : (frs parts).length ≤ 3200 * i
  fit : ∀ l ∈ parts, l.length ≤ 10000 ∧ (bytesP l).length ≤ 32768 ∧ ∀ p ∈ l, p.key.size ≤ 32768 ∧ p.b.length ≤ 32768
  ml : ms.length ≤ 50 * i
  mw : ∀ p ∈ ms, wt p ≤ 3000
  msum : sumP ms ≤ 3100 * i
  fold : foldP parts = ms.map PV.core
theorem Bd.mono {i j : Nat} {parts : List (List PV)} {ms : List PV} (h : Bd i parts ms) (hij : i ≤ j) : Bd j parts ms :=
  ⟨by have := h.pl; omega, by have := h.fl; omega, by have := h.by_; omega, h.fit, by have := h.ml; omega, h.mw, by have := h.msum; omega, h.fold⟩
theorem Bd.zero : Bd 0 [] [] := ⟨by simp, by simp, by simp [frs, frsL], by simp, by simp, by simp, by simp [sumP], rfl⟩
/-- What is behind the frames: nothing, or some of the frame that was under way. -/
def Tl (i : Nat) (parts : List (List PV)) (t : List UInt8) (un : Bool) (hs : List PV) : Prop :=
  t = [] ∨ ∃ u m, un = true ∧ t = (frameB parts.length (bytesP u)).take m ∧ Bd i (parts ++ [u]) hs
theorem Tl.mono {i j : Nat} {parts : List (List PV)} {t : List UInt8} {un : Bool} {hs : List PV} (h : Tl i parts t un hs) (hij : i ≤ j) : Tl j parts t un hs :=
  h.imp id fun ⟨u, m, h1, h2, h3⟩ => ⟨u, m, h1, h2, h3.mono hij⟩
theorem Tl.take {i : Nat} {parts : List (List PV)} {t : List UInt8} {un : Bool} {hs : List PV} (h : Tl i parts t un hs) (k : Nat) : Tl i parts (t.take k) un hs := by
  rcases h with rfl | ⟨u, m, h1, rfl, h3⟩
  · exact .inl (by simp)
  · exact .inr ⟨u, min k m, h1, by rw [List.take_take], h3⟩
/-- A fall. -/
theorem DK.fell {d d' : Disk} {parts : List (List PV)} {t : List UInt8} {st : Bool} (h : DK d parts t st) (hf : ∀ s, FellV (d s) (d' s)) : ∃ k, DK d' parts (t.take k) true := by
  have ho : ∀ s, s ≠ nabK → s ≠ nabT → d' s = none := fun s h1 h2 => by
    have := hf s
    rw [h.only s h1 h2] at this
    exact this.of_none
  rcases h.k with ⟨h1, h2, h3⟩ | ⟨sf, h1, h2, -⟩
  · have := hf nabK
    rw [h1] at this
    exact ⟨0, ho, .inl ⟨this.of_none, h2, by simp⟩⟩
  · have := hf nabK
    rw [h1] at this
    obtain ⟨k, h3, h4, h5⟩ := this.of_some
    have e : (frs parts ++ t).take k = frs parts ++ t.take (k - (frs parts).length) := by rw [List.take_append, List.take_of_length_le (by omega)]
    refine ⟨k - (frs parts).length, ho, .inr ⟨k, by rw [h5, e], by omega, fun _ => ?_⟩⟩
    rw [← e, List.length_take]; omega
/-- What Open reads of it. -/
theorem DK.kis {d : Disk} {i : Nat} {parts : List (List PV)} {t : List UInt8} {un : Bool} {ms hs : List PV} (h : DK d parts t true) (hb : Bd i parts ms) (ht : Tl i parts t un hs) (hi : i ≤ 60) :
    ∃ parts' t', KIs (d nabK) parts' t' ∧ ((parts' = parts) ∨ (un = true ∧ Bd i parts' hs)) ∧ DK (openD d nabK nabT parts') parts' [] true ∧ (openD d nabK nabT parts') nabT = none ∧ (openD d nabK nabT parts' nabK = none ∧ parts' = [] ∨ openD d nabK nabT parts' nabK = some (frs parts', (frs parts').length)) := by
  have key : ∀ (parts' : List (List PV)) (t' : List UInt8), KIs (d nabK) parts' t' → (∀ sf, d nabK = some (frs parts' ++ t', sf) → (frs parts').length ≤ sf) → DK (openD d nabK nabT parts') parts' [] true ∧ (openD d nabK nabT parts') nabT = none ∧ (openD d nabK nabT parts' nabK = none ∧ parts' = [] ∨ openD d nabK nabT parts' nabK = some (frs parts', (frs parts').length)) := by
    intro parts' t' hk hsf
    have ho : ∀ x : Option FV, ∀ s, s ≠ nabK → s ≠ nabT → ((d.put nabT none).put nabK x) s = none := fun x s h1 h2 => by
      rw [Disk.put_ne _ _ h1, Disk.put_ne _ _ h2]; exact h.only s h1 h2
    rcases hk.is with ⟨h1, h2, h3⟩ | ⟨sf, h1⟩
    · rw [openD_none h1]
      have e1 : (d.put nabT none) nabK = none := by rw [Disk.put_ne _ _ nAbKT]; exact h1
      refine ⟨⟨fun s g1 g2 => by rw [Disk.put_ne _ _ g2]; exact h.only s g1 g2, .inl ⟨e1, h2, rfl⟩⟩, Disk.put_same _ _ _, .inl ⟨e1, h2⟩⟩
    · rw [openD_some h1]
      have h4 := hsf sf h1
      have e1 : min sf (frsL 0 (parts'.map bytesP)).length = (frs parts').length := Nat.min_eq_right h4
      simp only [e1]
      refine ⟨⟨fun s g1 g2 => ho _ s g1 g2, .inr ⟨_, ?_, Nat.le_refl _, fun _ => by rw [List.append_nil]⟩⟩, ?_, .inr (Disk.put_same _ _ _)⟩
      · rw [Disk.put_same, List.append_nil]; rfl
      · rw [Disk.put_ne _ _ (fun e => nAbKT e.symm)]; exact Disk.put_same _ _ _
  have kfit : ∀ (parts' : List (List PV)) (t' : List UInt8) (ns : List PV), Bd i parts' ns → ((d nabK = none ∧ parts' = [] ∧ t' = []) ∨ ∃ sf, d nabK = some (frs parts' ++ t', sf)) → (∃ (y : List UInt8) (m : Nat), y.length ≤ 32768 ∧ m < (frameB parts'.length y).length ∧ t' = (frameB parts'.length y).take m) → KIs (d nabK) parts' t' := fun parts' t' ns h1 h2 h3 =>
    ⟨h2, h3, h1.fit, by have := h1.pl; omega, by have := h1.fl; omega⟩
  have knil : ∀ n, ∃ (y : List UInt8) (m : Nat), y.length ≤ 32768 ∧ m < (frameB n y).length ∧ ([] : List UInt8) = (frameB n y).take m := fun n => ⟨[], 0, by simp, by rw [frameB_len]; simp, rfl⟩
  rcases ht with rfl | ⟨u, m, hun, rfl, hbu⟩
  · have hk : KIs (d nabK) parts [] := kfit parts [] ms hb (h.k.imp id fun ⟨sf, h1, _, _⟩ => ⟨sf, h1⟩) (knil _)
    refine ⟨parts, [], hk, .inl rfl, key parts [] hk fun sf h1 => ?_⟩
    rcases h.k with ⟨h2, _⟩ | ⟨sf', h2, h3, _⟩
    · rw [h2] at h1; cases h1
    · rw [h2] at h1; injection h1 with h1; injection h1 with _ h1; omega
  · by_cases hm : m < (frameB parts.length (bytesP u)).length
    · have hk : KIs (d nabK) parts ((frameB parts.length (bytesP u)).take m) := kfit parts _ ms hb (h.k.imp id fun ⟨sf, h1, _, _⟩ => ⟨sf, h1⟩) ⟨bytesP u, m, (hbu.fit u (by simp)).2.1, hm, rfl⟩
      refine ⟨parts, _, hk, .inl rfl, key parts _ hk fun sf h1 => ?_⟩
      rcases h.k with ⟨h2, _⟩ | ⟨sf', h2, h3, _⟩
      · rw [h2] at h1; cases h1
      · rw [h2] at h1; injection h1 with h1; injection h1 with _ h1; omega
    · rw [List.take_of_length_le (by omega)] at h
      rcases h.k with ⟨h2, h3, h4⟩ | ⟨sf, h2, h3, h4⟩
      · have := congrArg List.length h4
        rw [frameB_len] at this
        simp at this
      · rw [← frs_snoc] at h2 h4
        have hk : KIs (d nabK) (parts ++ [u]) [] := kfit (parts ++ [u]) [] hs hbu (.inr ⟨sf, by rw [List.append_nil]; exact h2⟩) (knil _)
        refine ⟨parts ++ [u], [], hk, .inr ⟨hun, hbu⟩, key (parts ++ [u]) [] hk fun sf' h5 => ?_⟩
        rw [List.append_nil, h2] at h5
        injection h5 with h5
        injection h5 with _ h5
        have := h4 rfl
        omega
end Go.Proofs.YtcifhfdjigfeiaaGreatDoor
end

/-! Pairs by rising keys; cut and put again they are the same; what bounds the frames, onwards. -/
section
set_option linter.unusedVariables false
set_option linter.unusedSimpArgs false
namespace Go.Proofs.YtcifhfdjigfeiaaGreatDoor
open Go.RowKit

theorem lt_tri {a b : List UInt8} (h1 : ¬ a < b) (h2 : ¬ b < a) : a = b := List.le_antisymm (List.not_lt.1 h2) (List.not_lt.1 h1)
theorem kb_inj {a b : ByteArray} (h : kb a = kb b) : a = b := by rw [← kb_back a, h, kb_back]
/-- By rising keys, and none that goes. -/
def SoC (L : List Core) : Prop := L.Pairwise (fun a b => kb a.1 < kb b.1) ∧ ∀ x ∈ L, x.2.2 = false
theorem tw_take {α : Type} (p : α → Bool) (l : List α) : l.take (l.takeWhile p).length = l.takeWhile p := by
  induction l with
  | nil => rfl
  | cons a l ih =>
    by_cases h : p a = true
    · rw [List.takeWhile_cons_of_pos h, List.length_cons, List.take_succ_cons, ih]
    · rw [List.takeWhile_cons_of_neg h]; rfl
theorem tw_drop {α : Type} (p : α → Bool) (l : List α) : l.drop (l.takeWhile p).length = l.dropWhile p := by
  induction l with
  | nil => rfl
  | cons a l ih =>
    by_cases h : p a = true
    · rw [List.takeWhile_cons_of_pos h, List.length_cons, List.drop_succ_cons, ih, List.dropWhile_cons_of_pos h]
    · rw [List.takeWhile_cons_of_neg h, List.dropWhile_cons_of_neg h]; rfl
theorem tw_mem {α : Type} {p : α → Bool} {l : List α} {x : α} (h : x ∈ l.takeWhile p) : p x = true := by
  induction l with
  | nil => cases h
  | cons a l ih =>
    by_cases ha : p a = true
    · rw [List.takeWhile_cons_of_pos ha] at h
      rcases List.mem_cons.1 h with rfl | h
      · exact ha
      · exact ih h
    · rw [List.takeWhile_cons_of_neg ha] at h; cases h
theorem tw_all {α : Type} {p : α → Bool} {l : List α} (h : ∀ a ∈ l, p a = true) : l.takeWhile p = l := by
  induction l with
  | nil => rfl
  | cons a l ih => rw [List.takeWhile_cons_of_pos (h a List.mem_cons_self), ih fun b hb => h b (List.mem_cons_of_mem _ hb)]
theorem SoC.split {L : List Core} (h : SoC L) (x : ByteArray) : ∃ A B, L = A ++ B ∧ coreAt L x = A.length ∧ (∀ a ∈ A, kb a.1 < kb x) ∧ (∀ b ∈ B, ¬ kb b.1 < kb x) := by
  refine ⟨L.takeWhile fun c => decide (kb c.1 < kb x), L.dropWhile fun c => decide (kb c.1 < kb x), (List.takeWhile_append_dropWhile).symm, rfl, fun a ha => of_decide_eq_true (tw_mem (p := fun c : Core => decide (kb c.1 < kb x)) ha), fun b hb => ?_⟩
  cases hB : L.dropWhile fun c => decide (kb c.1 < kb x) with
  | nil => rw [hB] at hb; cases hb
  | cons c B =>
    rw [hB] at hb
    have hc : ¬ kb c.1 < kb x := by
      have h1 := List.head?_dropWhile_not (fun c : Core => decide (kb c.1 < kb x)) L
      rw [hB] at h1
      simpa using h1
    rcases List.mem_cons.1 hb with rfl | hb
    · exact hc
    · have h2 := h.1
      rw [← List.takeWhile_append_dropWhile (p := fun c : Core => decide (kb c.1 < kb x)) (l := L), List.pairwise_append] at h2
      have h3 := h2.2.1
      rw [hB, List.pairwise_cons] at h3
      exact fun e => hc (List.lt_trans (h3.1 b hb) e)
theorem SoC.put1 {L : List Core} (h : SoC L) (c : Core) : SoC (put1 L c) := by
  obtain ⟨A, B, rfl, hA, h1, h2⟩ := h.split c.1
  obtain ⟨D, hD, hD2⟩ : ∃ D, (A ++ B).drop (if coreIs (A ++ B) c.1 then coreAt (A ++ B) c.1 + 1 else coreAt (A ++ B) c.1) = D ∧ (∀ d ∈ D, d ∈ B ∧ kb c.1 < kb d.1) ∧ D.Pairwise (fun a b => kb a.1 < kb b.1) := by
    have hp := (List.pairwise_append.1 h.1).2.1
    cases B with
    | nil =>
      refine ⟨[], ?_, by simp, List.Pairwise.nil⟩
      rw [List.append_nil, List.drop_of_length_le]
      rw [List.append_nil] at hA
      split <;> omega
    | cons b B =>
      rw [List.pairwise_cons] at hp
      by_cases he : b.1 = c.1
      · have hi : coreIs (A ++ b :: B) c.1 = true := by unfold coreIs; rw [hA, List.getElem?_append_right (Nat.le_refl _), Nat.sub_self]; simp [he]
        refine ⟨B, ?_, fun d hd => ⟨List.mem_cons_of_mem _ hd, he ▸ hp.1 d hd⟩, hp.2⟩
        rw [hi, if_pos rfl, hA, List.drop_append, List.drop_of_length_le (by omega), show A.length + 1 - A.length = 1 by omega]
        rfl
      · have hi : coreIs (A ++ b :: B) c.1 = false := by unfold coreIs; rw [hA, List.getElem?_append_right (Nat.le_refl _), Nat.sub_self]; simp [he]
        have hlt : kb c.1 < kb b.1 := by
          by_cases e : kb c.1 < kb b.1
          · exact e
          · exact absurd (kb_inj (lt_tri (h2 b List.mem_cons_self) e)) he
        refine ⟨b :: B, ?_, fun d hd => ⟨hd, ?_⟩, List.pairwise_cons.2 hp⟩
        · rw [hi, if_neg (by simp), hA, List.drop_left]
        · rcases List.mem_cons.1 hd with rfl | hd
          · exact hlt
          · exact List.lt_trans hlt (hp.1 d hd)
  have hAs := (List.pairwise_append.1 h.1).1
  have hT : (A ++ B).take (coreAt (A ++ B) c.1) = A := by rw [hA, List.take_left]
  unfold Go.Proofs.YtcifhfdjigfeiaaGreatDoor.put1
  rw [hD, hT]
  refine ⟨?_, fun x hx => ?_⟩
  · rw [List.pairwise_append, List.pairwise_append]
    refine ⟨⟨hAs, ?_, fun a ha b hb => ?_⟩, hD2.2, fun a ha d hd => ?_⟩
    · split
      · exact List.Pairwise.nil
      · simp
    · split at hb
      · cases hb
      · rw [List.mem_singleton.1 hb]; exact h1 a ha
    · have hd2 := (hD2.1 d hd).2
      rcases List.mem_append.1 ha with ha | ha
      · exact List.lt_trans (h1 a ha) hd2
      · split at ha
        · cases ha
        · rw [List.mem_singleton.1 ha]; exact hd2
  · rcases List.mem_append.1 hx with hx | hx
    · rcases List.mem_append.1 hx with hx | hx
      · exact h.2 x (List.mem_append_left _ hx)
      · split at hx
        · cases hx
        · rw [List.mem_singleton.1 hx]
    · exact h.2 x (List.mem_append_right _ (hD2.1 x hx).1)
theorem SoC.putC {L : List Core} (h : SoC L) (M : List Core) : SoC (putC L M) := by
  induction M generalizing L with
  | nil => exact h
  | cons c M ih => exact ih (h.put1 c)
theorem SoC.nil : SoC [] := ⟨List.Pairwise.nil, by simp⟩
theorem SoC.foldP (parts : List (List PV)) : SoC (foldP parts) := by
  have : ∀ (parts : List (List PV)) (L : List Core), SoC L → SoC (parts.foldl (fun L l => Go.Proofs.YtcifhfdjigfeiaaGreatDoor.putC L (l.map PV.core)) L) := by
    intro parts
    induction parts with
    | nil => exact fun L h => h
    | cons l parts ih => exact fun L h => ih _ (h.putC _)
  exact this parts [] SoC.nil
/-- What rises, put onto what is less, is behind it. -/
theorem SoC.again {L M : List Core} (h : SoC (L ++ M)) : Go.Proofs.YtcifhfdjigfeiaaGreatDoor.putC L M = L ++ M := by
  induction M generalizing L with
  | nil => rw [List.append_nil]; rfl
  | cons c M ih =>
    have hc := h.2 c (by simp)
    have hL : ∀ a ∈ L, kb a.1 < kb c.1 := fun a ha => (List.pairwise_append.1 h.1).2.2 a ha c List.mem_cons_self
    have hat : coreAt L c.1 = L.length := by
      unfold coreAt
      rw [tw_all fun a ha => decide_eq_true (hL a ha)]
    have h1 : Go.Proofs.YtcifhfdjigfeiaaGreatDoor.put1 L c = L ++ [c] := by
      have hi : coreIs L c.1 = false := by unfold coreIs; rw [hat, List.getElem?_eq_none (Nat.le_refl _)]
      obtain ⟨k, b, g⟩ := c
      simp only at hc hat hi
      subst hc
      unfold Go.Proofs.YtcifhfdjigfeiaaGreatDoor.put1
      simp only [hat, hi, List.take_length, Bool.false_eq_true, if_false, List.drop_length, List.append_nil]
    show Go.Proofs.YtcifhfdjigfeiaaGreatDoor.putC (Go.Proofs.YtcifhfdjigfeiaaGreatDoor.put1 L c) M = _
    rw [h1, ih (by rw [List.append_assoc]; exact h), List.append_assoc]
    rfl
theorem foldP_flat (parts : List (List PV)) : foldP parts = Go.Proofs.YtcifhfdjigfeiaaGreatDoor.putC [] (parts.flatten.map PV.core) := by
  have : ∀ (parts : List (List PV)) (L : List Core), parts.foldl (fun L l => Go.Proofs.YtcifhfdjigfeiaaGreatDoor.putC L (l.map PV.core)) L = Go.Proofs.YtcifhfdjigfeiaaGreatDoor.putC L (parts.flatten.map PV.core) := by
    intro parts
    induction parts with
    | nil => exact fun L => rfl
    | cons l parts ih =>
      intro L
      rw [List.foldl_cons, ih, List.flatten_cons, List.map_append]
      unfold Go.Proofs.YtcifhfdjigfeiaaGreatDoor.putC
      rw [List.foldl_append]
  exact this parts []
theorem cut_fold {qs : List PV} {parts parts0 : List (List PV)} (h : Cut qs parts) (h0 : qs.map PV.core = foldP parts0) : foldP parts = qs.map PV.core := by
  rw [foldP_flat, h.flat, h0]
  have := (SoC.foldP parts0).again (L := []) (M := foldP parts0)
  simpa using this
end Go.Proofs.YtcifhfdjigfeiaaGreatDoor
end

/-! courantlaw23.CompactPlays, plain: what bounds the frames, behind a Put, behind a Compact. -/
section
set_option linter.unusedVariables false
set_option linter.unusedSimpArgs false
namespace Go.Proofs.YtcifhfdjigfeiaaGreatDoor
open Go.RowKit

def lenC (c : Core) : Nat := (pairB ⟨c.1, c.2.1, c.2.2, none, 0⟩).length
def sumC (L : List Core) : Nat := (L.map lenC).sum
theorem sumC_append (a b : List Core) : sumC (a ++ b) = sumC a + sumC b := by simp [sumC]
theorem sumP_C (ps : List PV) : sumP ps = sumC (ps.map PV.core) := by
  induction ps with
  | nil => rfl
  | cons p ps ih =>
    have e1 : sumP (p :: ps) = (pairB p).length + sumP ps := by simp [sumP]
    have e2 : sumC ((p :: ps).map PV.core) = lenC p.core + sumC (ps.map PV.core) := by simp [sumC]
    have e3 : lenC p.core = (pairB p).length := congrArg List.length (pairB_core (p := ⟨p.core.1, p.core.2.1, p.core.2.2, none, 0⟩) (q := p) rfl)
    rw [e1, e2, e3, ih]
theorem sumC_put1 (L : List Core) (c : Core) : sumC (put1 L c) ≤ sumC L + lenC c := by
  unfold put1
  rw [sumC_append, sumC_append]
  have h1 : sumC (if c.2.2 then [] else [(c.1, c.2.1, false)] : List Core) ≤ lenC c := by
    obtain ⟨k, b, g⟩ := c
    cases g
    · simp [sumC]
    · simp [sumC]
  have h2 : ∀ a b, a ≤ b → sumC (L.take a) + sumC (L.drop b) ≤ sumC L := fun a b hab => by
    have e : sumC L = sumC (L.take a) + sumC (L.drop a) := by rw [← sumC_append, List.take_append_drop]
    have e2 : sumC (L.drop a) = sumC ((L.drop a).take (b - a)) + sumC ((L.drop a).drop (b - a)) := by rw [← sumC_append, List.take_append_drop]
    rw [List.drop_drop, show a + (b - a) = b by omega] at e2
    omega
  have h3 := h2 (coreAt L c.1) (if coreIs L c.1 then coreAt L c.1 + 1 else coreAt L c.1) (by split <;> omega)
  omega
theorem sumC_putC (L M : List Core) : sumC (putC L M) ≤ sumC L + sumC M := by
  unfold putC
  induction M generalizing L with
  | nil => simp [sumC]
  | cons c M ih =>
    rw [List.foldl_cons]
    have h1 := ih (put1 L c)
    have h2 := sumC_put1 L c
    have e : sumC (c :: M) = lenC c + sumC M := by simp [sumC]
    omega
theorem Bd.put {i : Nat} {parts : List (List PV)} {ms u hs : List PV} (h : Bd i parts ms) (hf : fewP u = true) (hc : hs.map PV.core = putC (ms.map PV.core) (u.map PV.core)) : Bd (i + 1) (parts ++ [u]) hs := by
  obtain ⟨g1, g2, g3⟩ := few_small hf
  refine ⟨?_, ?_, ?_, fun l hl => ?_, ?_, ?_, ?_, ?_⟩
  · have := h.pl; rw [List.length_append, List.length_singleton]; omega
  · have := h.fl; rw [List.flatten_append, List.length_append, List.flatten_cons, List.flatten_nil, List.append_nil]; omega
  · have := h.by_; rw [frs_snoc, List.length_append, frameB_len]; omega
  · rcases List.mem_append.1 hl with hl | hl
    · exact h.fit l hl
    · rw [List.mem_singleton.1 hl]; exact few_fit hf
  · have h1 := congrArg List.length hc
    have h2 := putC_len (ms.map PV.core) (u.map PV.core)
    have := h.ml
    simp only [List.length_map] at h1 h2
    omega
  · rw [wt_core, hc]
    exact putC_wt (wt_core.1 h.mw) (wt_core.1 g2)
  · have h1 := sumC_putC (ms.map PV.core) (u.map PV.core)
    rw [← hc, ← sumP_C, ← sumP_C, ← sumP_C] at h1
    have h2 := h.msum
    have h3 := bytesP_len u
    omega
  · rw [foldP_snoc, h.fold, hc]
theorem Bd.cut {i : Nat} {parts parts' : List (List PV)} {ms qs : List PV} (h : Bd i parts ms) (hi : i ≤ 60) (hq : qs.map PV.core = ms.map PV.core) (hc : Cut qs parts') : Bd (i + 1) parts' ms := by
  have hl : qs.length = ms.length := by have := congrArg List.length hq; simpa using this
  have hml := h.ml
  have hw : ∀ q ∈ qs, wt q ≤ 3000 := by rw [wt_core, hq, ← wt_core]; exact h.mw
  refine ⟨?_, ?_, ?_, fun l hl2 => ?_, by omega, h.mw, by have := h.msum; omega, ?_⟩
  · have := cut_len hc; omega
  · rw [hc.flat]; omega
  · have h1 := cut_total hc (by omega)
    have h2 := h.msum
    have h3 : sumP qs = sumP ms := sumP_core hq
    have h4 : sumP ms / 16384 ≤ sumP ms := Nat.div_le_self _ _
    have h5 : sumP ms / 16384 * 16384 ≤ sumP ms := Nat.div_mul_le_self _ _
    unfold frs
    rw [frsL_len]
    rw [h3] at h1
    omega
  · refine ⟨?_, (hc.fit l hl2).2, fun p hp => ?_⟩
    · have := len_flat hl2; rw [hc.flat] at this; omega
    · have h1 : p ∈ qs := by rw [← hc.flat]; exact List.mem_flatten.2 ⟨l, hl2, hp⟩
      have := hw p h1
      unfold wt at this
      omega
  · rw [cut_fold hc (by rw [hq, h.fold]), hq]
theorem Bd.cutLen {i : Nat} {parts : List (List PV)} {ms qs : List PV} (h : Bd i parts ms) (hi : i ≤ 60) (hq : qs.map PV.core = ms.map PV.core) {parts' : List (List PV)} (hc : Cut qs parts') : frLen parts' ≤ 3200 * (i + 1) := by
  have := (h.cut hi hq hc).by_
  unfold frs at this
  rwa [frsL_len] at this
end Go.Proofs.YtcifhfdjigfeiaaGreatDoor
end

/-! courantlaw23.CompactPlays: what is held while it runs. -/
section
set_option linter.unusedVariables false
set_option linter.unusedSimpArgs false
namespace Go.Proofs.YtcifhfdjigfeiaaGreatDoor
open Go.RowKit

/-- The blocks that may turn. -/
def Zn (T F M : Nat) (ps : List PF) (bx : List Nat) (k : Nat) : Prop := k = T ∨ k ∈ foot F M ps ∨ k ∈ bx
structure MvZ (w : World) (T F M : Nat) (ps : List PF) (T' : Nat) (ps' : List PF) (bx : List Nat) (w' : World) : Prop where
  kept : Kept (Zn T F M ps bx) w w'
  feet : ∀ k ∈ foot F M ps', k ∈ foot F M ps ∨ w.heap.size ≤ k
  t : T' = T ∨ w.heap.size ≤ T'
section
variable {w0 w w1 w2 : World} {T T1 T2 F M : Nat} {ps ps1 ps2 : List PF} {bx : List Nat} {A : Option Addr} {ms : List PV}
theorem MvZ.zn (h : MvZ w T F M ps T1 ps1 bx w1) {i : Nat} (hi : i < w.heap.size) (e : Zn T1 F M ps1 bx i) : Zn T F M ps bx i := by
  rcases e with e | e | e
  · rcases h.t with h1 | h1
    · exact .inl (e.trans h1)
    · omega
  · exact .inr (.inl ((h.feet i e).resolve_right (by omega)))
  · exact .inr (.inr e)
theorem MvZ.trans (h : MvZ w T F M ps T1 ps1 bx w1) (k : MvZ w1 T1 F M ps1 T2 ps2 bx w2) : MvZ w T F M ps T2 ps2 bx w2 :=
  ⟨h.kept.trans k.kept fun i hi e => h.zn hi e, fun i hi => (k.feet i hi).elim (h.feet i) fun e => .inr (Nat.le_trans h.kept.size e), by
    rcases k.t with e | e
    · rw [e]; exact h.t
    · exact .inr (Nat.le_trans h.kept.size e)⟩
theorem MvZ.moved (h : Moved w T F M ps ps1 w1) : MvZ w T F M ps T ps1 bx w1 := ⟨h.kept.mono fun k _ e => e.elim .inl fun e => .inr (.inl e), h.feet, .inl rfl⟩
theorem MvZ.stay (h : Kept (fun _ => False) w w1) : MvZ w T F M ps T ps bx w1 := ⟨h.mono fun _ _ e => e.elim, fun k e => .inl e, .inl rfl⟩
theorem MvZ.box {b : Nat} (hb : b ∈ bx) (h : Kept (fun k => k = b) w w1) : MvZ w T F M ps T ps bx w1 := ⟨h.mono fun k _ e => .inr (.inr (e ▸ hb)), fun k e => .inl e, .inl rfl⟩
theorem MvZ.opened (h : Kept (fun k => k ∈ foot F M ps) w w1) (hf : ∀ k ∈ foot F M ps1, k ∈ foot F M ps ∨ w.heap.size ≤ k) (hT : w.heap.size ≤ T1) : MvZ w T F M ps T1 ps1 bx w1 := ⟨h.mono fun k _ e => .inr (.inl e), hf, .inr hT⟩
def PsZ (w : World) (T F M : Nat) (ps : List PF) (bx : List Nat) (A : Option Addr) (ms : List PV) : Prop := ∀ W, Kept (Zn T F M ps bx) w W → PsAt W A ms
theorem PsZ.mv (h : PsZ w T F M ps bx A ms) (m : MvZ w T F M ps T1 ps1 bx w1) : PsZ w1 T1 F M ps1 bx A ms := fun W hW => h W (m.kept.trans hW fun i hi e => m.zn hi e)
theorem PsZ.here (h : PsZ w T F M ps bx A ms) : PsAt w A ms := h w (Kept.refl _ _)
theorem PsZ.psF (h : PsZ w T F M ps bx A ms) : PsF w T F M ps A ms := fun W hW => h W (hW.mono fun k _ e => e.elim .inl fun e => .inr (.inl e))
theorem PsZ.arg (h : PsAt w0 A ms) (hk : Kept (fun _ => False) w0 w) (hT : w0.heap.size ≤ T) (hf : ∀ k ∈ foot F M ps, w0.heap.size ≤ k) (hb : ∀ b ∈ bx, w0.heap.size ≤ b) : PsZ w T F M ps bx A ms := fun W hW =>
  h.kept (hk.trans hW fun i hi e => by
    rcases e with e | e | e
    · omega
    · have := hf i e; omega
    · have := hb i e; omega)
theorem OwnP.psZ {W : World} {v : Value} {qs : List PV} (h : OwnP w W v qs) (hT : T < w.heap.size) (hf : ∀ k ∈ foot F M ps, k < w.heap.size) (hb : ∀ b ∈ bx, b < w.heap.size) : ∃ A c, v = .slice A qs.length c ∧ (A = none → c = 0) ∧ PsZ W T F M ps bx A qs := by
  obtain ⟨A, c, hv, hA, -, -⟩ := h.at_
  have hz : ∀ k, w.heap.size ≤ k → ¬ Zn T F M ps bx k := fun k hk e => by
    rcases e with e | e | e
    · omega
    · have := hf k e; omega
    · have := hb k e; omega
  refine ⟨A, c, hv, hA, fun W' hW' => ?_⟩
  have h1 := own_kept h.row hW' fun k e => hz k (own_ge h.row k e)
  have h2 : ∀ q ∈ qs, q.Ok W' := fun q hq => PV.ok_own (own_kept (h.own q hq) hW' fun k e => hz k (own_ge (h.own q hq) k e))
  obtain ⟨A', c', hv', -, -, -, hp, -⟩ := row_form h1 h2
  rw [hv] at hv'
  simp only [Value.slice.injEq] at hv'
  obtain ⟨rfl, -, -⟩ := hv'
  exact hp
def BxZ (w : World) (T F M : Nat) (ps : List PF) (bx : List Nat) : Prop := ∀ b ∈ bx, b ≠ T ∧ b ∉ foot F M ps ∧ b < w.heap.size
theorem BxZ.mv (h : BxZ w T F M ps bx) (m : MvZ w T F M ps T1 ps1 bx w1) : BxZ w1 T1 F M ps1 bx := fun b hb => by
  obtain ⟨h1, h2, h3⟩ := h b hb
  refine ⟨fun e => ?_, fun e => ?_, Nat.lt_of_lt_of_le h3 m.kept.size⟩
  · rcases m.t with h4 | h4
    · exact h1 (e.trans h4)
    · omega
  · rcases m.feet b e with h4 | h4
    · exact h2 h4
    · omega
theorem boxed_mv {b : Nat} {ty : TypeId} {v : Value} (h : Boxed w b ty v) (hx : BxZ w T F M ps bx) (hb : b ∈ bx) (m : Moved w T F M ps ps1 w1) : Boxed w1 b ty v :=
  m.kept.heap h fun e => by
    obtain ⟨h1, h2, h3⟩ := hx b hb
    exact e.elim h1 h2
end
/-- What is held while it runs. -/
structure PL (w0 W : World) (fb sb db ub mb lb F M T : Nat) (ps : List PF) (clock : Nat) (lim arm : Int) (dn un : Bool) (ms hs : List PV) (parts : List (List PV)) (t : List UInt8) (st : Bool) (i : Nat) : Prop where
  f : FilesAt W F M ps clock lim arm dn
  dk : DK (lk ps) parts t st
  tl : Tl i parts t un hs
  bd : Bd i parts ms
  up : dn = false → t = [] ∧ st = true
  bf : Boxed W fb 23 (.pointer (some ⟨F, 0, none⟩))
  bs : Boxed W sb 25 (.pointer (some ⟨T, 0, none⟩))
  bu : Boxed W ub 4 (.bool un)
  bl : ∃ A c, Boxed W lb 30 (.slice A ms.length c) ∧ PsZ W T F M ps [fb, sb, db, ub, mb, lb] A ms
  bm : ∃ A c, Boxed W mb 30 (.slice A hs.length c) ∧ PsZ W T F M ps [fb, sb, db, ub, mb, lb] A hs
  bx : BxZ W T F M ps [fb, sb, db, ub, mb, lb]
  dj : [fb, sb, db, ub, mb, lb].Nodup
  nT : w0.heap.size ≤ T
  nf : ∀ k ∈ foot F M ps, w0.heap.size ≤ k
  nb : ∀ b ∈ [fb, sb, db, ub, mb, lb], w0.heap.size ≤ b
  kept : Kept (fun _ => False) w0 W
  hl : hs.length ≤ 5000
structure Alive (W : World) (T F M : Nat) (ps : List PF) (clock : Nat) (lim arm : Int) (parts : List (List PV)) (ms : List PV) : Prop where
  nt : lk ps nabT = none
  k : (lk ps nabK = none ∧ parts = []) ∨ lk ps nabK = some (frs parts, (frs parts).length)
  cs : ∃ v qs, CS W T F M nAb ps clock lim arm false v qs parts.length (frs parts).length false ∧ qs.map PV.core = ms.map PV.core
section
variable {w0 W W' : World} {fb sb db ub mb lb F M T : Nat} {ps ps' : List PF} {clock clock' : Nat} {lim lim' arm arm' : Int} {dn dn' un : Bool} {ms hs : List PV} {parts parts' : List (List PV)} {t t' : List UInt8} {st st' : Bool} {i j : Nat}
theorem PL.moved (h : PL w0 W fb sb db ub mb lb F M T ps clock lim arm dn un ms hs parts t st i) (m : Moved W T F M ps ps' W') (hf : FilesAt W' F M ps' clock' lim' arm' dn') (hd : DK (lk ps') parts t' st') (ht : Tl i parts t' un hs) (hu : dn' = false → t' = [] ∧ st' = true) :
    PL w0 W' fb sb db ub mb lb F M T ps' clock' lim' arm' dn' un ms hs parts t' st' i := by
  have mz : MvZ W T F M ps T ps' [fb, sb, db, ub, mb, lb] W' := MvZ.moved m
  refine ⟨hf, hd, ht, h.bd, hu, boxed_mv h.bf h.bx (by simp) m, boxed_mv h.bs h.bx (by simp) m, boxed_mv h.bu h.bx (by simp) m, ?_, ?_, h.bx.mv mz, h.dj, h.nT, fun k hk => (m.feet k hk).elim (h.nf k) fun e => Nat.le_trans h.kept.size e, h.nb, h.kept.trans m.kept fun k hk e => ?_, h.hl⟩
  · obtain ⟨A, c, h1, h2⟩ := h.bl
    exact ⟨A, c, boxed_mv h1 h.bx (by simp) m, h2.mv mz⟩
  · obtain ⟨A, c, h1, h2⟩ := h.bm
    exact ⟨A, c, boxed_mv h1 h.bx (by simp) m, h2.mv mz⟩
  · rcases e with e | e
    · have := h.nT; omega
    · have := h.nf k e; omega
theorem PL.stay (h : PL w0 W fb sb db ub mb lb F M T ps clock lim arm dn un ms hs parts t st i) (hk : Kept (fun _ => False) W W') : PL w0 W' fb sb db ub mb lb F M T ps clock lim arm dn un ms hs parts t st i :=
  h.moved (Moved.stay hk) (h.f.kept hk (by simp)) h.dk h.tl h.up
theorem PL.mono (h : PL w0 W fb sb db ub mb lb F M T ps clock lim arm dn un ms hs parts t st i) (hij : i ≤ j) : PL w0 W fb sb db ub mb lb F M T ps clock lim arm dn un ms hs parts t st j :=
  { h with tl := h.tl.mono hij, bd := h.bd.mono hij }
theorem PL.small (h : PL w0 W fb sb db ub mb lb F M T ps clock lim arm dn un ms hs parts t st i) : ps.length ≤ 1000000 ∧ (∀ p ∈ ps, p.name.size ≤ 1000000) ∧ usedL ps = szV (lk ps nabK) + szV (lk ps nabT) := by
  have h1 := pair_D nAbKT h.f.names h.dk.only
  refine ⟨by omega, fun p hp => ?_, h1.2.2⟩
  rcases h1.1 p hp with e | e <;> rw [e] <;> decide
end
end Go.Proofs.YtcifhfdjigfeiaaGreatDoor
end

/-! courantlaw23.CompactPlays' open, walked. -/
section
set_option linter.unusedVariables false
set_option linter.unusedSimpArgs false
namespace Go.Proofs.YtcifhfdjigfeiaaGreatDoor
open Go.RowKit

/-- Files that only they themselves turn. -/
structure MvF (w : World) (F M : Nat) (ps ps' : List PF) (w' : World) : Prop where
  kept : Kept (fun k => k ∈ foot F M ps) w w'
  feet : ∀ k ∈ foot F M ps', k ∈ foot F M ps ∨ w.heap.size ≤ k
theorem MvF.refl (w : World) (F M : Nat) (ps : List PF) : MvF w F M ps ps w := ⟨Kept.refl _ _, fun k h => .inl h⟩
theorem MvF.trans {w w1 w2 : World} {F M : Nat} {p1 p2 p3 : List PF} (h : MvF w F M p1 p2 w1) (k : MvF w1 F M p2 p3 w2) : MvF w F M p1 p3 w2 :=
  ⟨h.kept.trans k.kept fun i hi e => (h.feet i e).resolve_right (by omega), fun i hi => (k.feet i hi).elim (h.feet i) fun e => .inr (Nat.le_trans h.kept.size e)⟩
theorem MvF.went {w w1 : World} {F M : Nat} {ps ps' : List PF} {c : Nat} {l a : Int} {dn : Bool} (h : Went w F M ps ps' c l a dn w1) : MvF w F M ps ps' w1 := ⟨h.kept, h.feet⟩
theorem MvF.hit {w w1 : World} {F M : Nat} {ps : List PF} (h : Kept (fun k => k = F) w w1) : MvF w F M ps ps w1 := ⟨h.mono fun k _ e => by subst e; simp [foot], fun k e => .inl e⟩
theorem MvF.stay {w w1 : World} {F M : Nat} {ps : List PF} (h : Kept (fun _ => False) w w1) : MvF w F M ps ps w1 := ⟨h.mono fun _ _ e => e.elim, fun k e => .inl e⟩
theorem MvF.moved {w w1 : World} {T F M : Nat} {ps ps' : List PF} (h : MvF w F M ps ps' w1) : Moved w T F M ps ps' w1 := Moved.opened h.kept h.feet
/-- The files, behind calls; what is on the disk. -/
structure FSt (w W : World) (F M : Nat) (ps : List PF) (lim : Int) (un : Bool) (hs : List PV) (parts : List (List PV)) (i : Nat) (arm : Int) (dn : Bool) : Prop where
  ex : ∃ ps' c' t', FilesAt W F M ps' c' lim arm dn ∧ MvF w F M ps ps' W ∧ DK (lk ps') parts t' true ∧ Tl i parts t' un hs
/-- A store that was opened. -/
structure Opd (w W : World) (F M : Nat) (ps : List PF) (lim : Int) (un : Bool) (ms hs : List PV) (i T2 : Nat) : Prop where
  ex : ∃ ps' c' arm' parts' v qs, CS W T2 F M nAb ps' c' lim arm' false v qs parts'.length (frs parts').length false ∧ qs.map PV.core = foldP parts' ∧ MvF w F M ps ps' W ∧ DK (lk ps') parts' [] true ∧ lk ps' nabT = none ∧ ((lk ps' nabK = none ∧ parts' = []) ∨ lk ps' nabK = some (frs parts', (frs parts').length)) ∧ (Bd i parts' ms ∨ (un = true ∧ Bd i parts' hs))
  t : w.heap.size ≤ T2
section
variable {w W : World} {F M : Nat} {ps : List PF} {lim arm : Int} {dn un : Bool} {ms hs : List PV} {parts : List (List PV)} {i : Nat}
theorem dk_small {ps : List PF} {parts : List (List PV)} {t : List UInt8} {st : Bool} (hn : (ps.map PF.name).Nodup) (h : DK (lk ps) parts t st) : ps.length ≤ 1000000 ∧ ∀ p ∈ ps, p.name.size ≤ 1000000 := by
  have h1 := pair_D nAbKT hn h.only
  refine ⟨by omega, fun p hp => ?_⟩
  rcases h1.1 p hp with e | e <;> rw [e] <;> decide
theorem FSt.started (h : FSt w W F M ps lim un hs parts i arm true) : Calls Tryz.prog 8 #[.pointer (some ⟨F, 0, none⟩)] W fun e w' => e = .returned (.tuple #[]) ∧ FSt w w' F M ps lim un hs parts i 0 false := by
  obtain ⟨ps1, c1, t1, hf, hm, hd, ht⟩ := h.ex
  have hsm := dk_small hf.names hd
  refine (start_down W F M ps1 c1 lim arm hf hsm.1 hsm.2).mono ?_
  rintro e w' ⟨he, qs, hw, ha⟩
  obtain ⟨k, hk⟩ := hd.fell ha.fell
  exact ⟨he, qs, c1, _, hw.at_, hm.trans (MvF.went hw), hk, ht.take k⟩
theorem FSt.fallen (h : FSt w W F M ps lim un hs parts i arm dn) {A : Option Addr} {n c : Nat} (hks : ∀ j, j < n → ∃ ad z, A = some ad ∧ w.cell? (ad.add j) = some (.int .i64 z) ∧ ad.block ∉ foot F M ps) : Calls Tryz.prog 10 #[.pointer (some ⟨F, 0, none⟩), .slice A n c] W fun e w' => e = .returned (.tuple #[]) ∧ FSt w w' F M ps lim un hs parts i arm true := by
  obtain ⟨ps1, c1, t1, hf, hm, hd, ht⟩ := h.ex
  have hsm := dk_small hf.names hd
  refine (crash_any W F M ps1 c1 lim arm dn A n c hf hsm.1 hsm.2 (Lib.hid fun j hj => ?_)).mono ?_
  · obtain ⟨ad, z, e, hc, hn⟩ := hks j hj
    have h2 := World.block_lt_of_cell? w _ hc
    rw [add_block] at h2
    exact ⟨ad, z, e, fun hm2 => (hm.feet _ hm2).elim hn fun e => by omega, hm.kept.cell hc (by rw [add_block]; exact hn)⟩
  · rintro e w' ⟨he, qs, hw, ha⟩
    obtain ⟨k, hk⟩ := hd.fell ha.fell
    exact ⟨he, qs, c1, _, hw.at_, hm.trans (MvF.went hw), hk, ht.take k⟩
theorem FSt.armed (h : FSt w W F M ps lim un hs parts i arm dn) (n : Int) (hn : n ≤ 9223372036854775807) : Calls Tryz.prog 9 #[.pointer (some ⟨F, 0, none⟩), .int .i64 n] W fun e w' => e = .returned (.tuple #[]) ∧ FSt w w' F M ps lim un hs parts i (armI n) dn := by
  obtain ⟨ps1, c1, t1, hf, hm, hd, ht⟩ := h.ex
  refine (arm_any n W F M lim arm dn hf.fb).mono ?_
  rintro e w' ⟨he, hb, hk⟩
  exact ⟨he, ps1, c1, t1, hf.own hk hb hf.lim0 (by unfold armI; split <;> omega), hm.trans (MvF.hit hk), hd, ht⟩
theorem FSt.opened (h : FSt w W F M ps lim un hs parts i arm false) (hb : Bd i parts ms) (hi : i ≤ 60) : Calls Tryz.prog 5 #[.pointer (some ⟨F, 0, none⟩), .string nAb] W fun e w' =>
    (e = .returned (.tuple #[.pointer none, .int .i64 13]) ∧ arm ≠ 0 ∧ ∃ arm', FSt w w' F M ps lim un hs parts i arm' true) ∨ (∃ T2, e = .returned (.tuple #[.pointer (some ⟨T2, 0, none⟩), .int .i64 0]) ∧ Opd w w' F M ps lim un ms hs i T2) := by
  obtain ⟨ps1, c1, t1, hf, hm, hd, ht⟩ := h.ex
  obtain ⟨parts', t', hk, hp, g1, g2, g3⟩ := hd.kis hb ht hi
  refine (open_D W F M ps1 c1 lim arm nAb parts' t' (by decide) nAb_full nAbKT hf hk).mono ?_
  rintro e w' (⟨rfl, h0, ps2, c2, arm2, hw, hl⟩ | ⟨T2, ps2, c2, arm2, v, qs, rfl, hT, hC, hk2, hft, -, hl, hq, -⟩)
  · refine .inl ⟨rfl, h0, arm2, ps2, c2, t1, hw.at_, hm.trans (MvF.went hw), ?_, ht⟩
    rcases hl with hl | hl
    · rw [hl]; exact hd
    · rw [hl]
      refine ⟨fun s h1 h2 => by rw [Disk.put_ne _ _ h2]; exact hd.only s h1 h2, ?_⟩
      have e1 : ((lk ps1).put (nAb ++ dotT) none) nabK = lk ps1 nabK := Disk.put_ne _ _ nAbKT
      rw [e1]
      exact hd.k
  · have hs := hm.kept.size
    refine .inr ⟨T2, rfl, ⟨ps2, c2, arm2, parts', v, qs, hC, hq, hm.trans ⟨hk2, hft⟩, by rw [hl]; exact g1, by rw [hl]; exact g2, by rw [hl]; exact g3, ?_⟩, by omega⟩
    rcases hp with rfl | hp
    · exact .inl hb
    · exact .inr hp
theorem Opd.armed {T2 : Nat} (h : Opd w W F M ps lim un ms hs i T2) : Calls Tryz.prog 9 #[.pointer (some ⟨F, 0, none⟩), .int .i64 0] W fun e w' => e = .returned (.tuple #[]) ∧ Opd w w' F M ps lim un ms hs i T2 := by
  obtain ⟨ps2, c2, arm2, parts', v, qs, hC, hq, hm, g1, g2, g3, g4⟩ := h.ex
  refine (arm_any 0 W F M lim arm2 false hC.f.fb).mono ?_
  rintro e w' ⟨he, hb, hk⟩
  exact ⟨he, ⟨ps2, c2, _, parts', v, qs, hC.armed hb hk hC.f.lim0 (by decide), hq, hm.trans (MvF.hit hk), g1, g2, g3, g4⟩, h.t⟩
end
end Go.Proofs.YtcifhfdjigfeiaaGreatDoor
end
