import Derived.Test.YtefpigakhhfcaaaDoorMbb
import Derived.Test.YtefpigakhhfcaaaDoorMba
/-! Pairs by rising keys; cut and put again they are the same; what bounds the frames, onwards. -/
section
set_option linter.unusedVariables false
set_option linter.unusedSimpArgs false
namespace Go.Proofs.YtefpigakhhfcaaaDoor
open Go.RowKit

theorem lt_tri {a b : List UInt8} (h1 : ¬ a < b) (h2 : ¬ b < a) : a = b := List.le_antisymm (List.not_lt.1 h2) (List.not_lt.1 h1)
theorem kb_inj {a b : ByteArray} (h : kb a = kb b) : a = b := by rw [← kb_back a, h, kb_back]
/-- By rising keys, and none that goes. -/
def SoC (L : List Core) : Prop := L.Pairwise (fun a b => kb a.1 < kb b.1) ∧ ∀ x ∈ L, x.2.2 = false
theorem tw_take {α : Type} (p : α → Bool) (l : List α) : l.take (l.takeWhile p).length = l.takeWhile p := by
  induction l with
  | nil => rfl
  | cons a l ih =>
    by_cases h : p a = true
    · rw [List.takeWhile_cons_of_pos h, List.length_cons, List.take_succ_cons, ih]
    · rw [List.takeWhile_cons_of_neg h]; rfl
theorem tw_drop {α : Type} (p : α → Bool) (l : List α) : l.drop (l.takeWhile p).length = l.dropWhile p := by
  induction l with
  | nil => rfl
  | cons a l ih =>
    by_cases h : p a = true
    · rw [List.takeWhile_cons_of_pos h, List.length_cons, List.drop_succ_cons, ih, List.dropWhile_cons_of_pos h]
    · rw [List.takeWhile_cons_of_neg h, List.dropWhile_cons_of_neg h]; rfl
theorem tw_mem {α : Type} {p : α → Bool} {l : List α} {x : α} (h : x ∈ l.takeWhile p) : p x = true := by
  induction l with
  | nil => cases h
  | cons a l ih =>
    by_cases ha : p a = true
    · rw [List.takeWhile_cons_of_pos ha] at h
      rcases List.mem_cons.1 h with rfl | h
      · exact ha
      · exact ih h
    · rw [List.takeWhile_cons_of_neg ha] at h; cases h
theorem tw_all {α : Type} {p : α → Bool} {l : List α} (h : ∀ a ∈ l, p a = true) : l.takeWhile p = l := by
  induction l with
  | nil => rfl
  | cons a l ih => rw [List.takeWhile_cons_of_pos (h a List.mem_cons_self), ih fun b hb => h b (List.mem_cons_of_mem _ hb)]
theorem SoC.split {L : List Core} (h : SoC L) (x : ByteArray) : ∃ A B, L = A ++ B ∧ coreAt L x = A.length ∧ (∀ a ∈ A, kb a.1 < kb x) ∧ (∀ b ∈ B, ¬ kb b.1 < kb x) := by
  refine ⟨L.takeWhile fun c => decide (kb c.1 < kb x), L.dropWhile fun c => decide (kb c.1 < kb x), (List.takeWhile_append_dropWhile).symm, rfl, fun a ha => of_decide_eq_true (tw_mem (p := fun c : Core => decide (kb c.1 < kb x)) ha), fun b hb => ?_⟩
  cases hB : L.dropWhile fun c => decide (kb c.1 < kb x) with
  | nil => rw [hB] at hb; cases hb
  | cons c B =>
    rw [hB] at hb
    have hc : ¬ kb c.1 < kb x := by
      have h1 := List.head?_dropWhile_not (fun c : Core => decide (kb c.1 < kb x)) L
      rw [hB] at h1
      simpa using h1
    rcases List.mem_cons.1 hb with rfl | hb
    · exact hc
    · have h2 := h.1
      rw [← List.takeWhile_append_dropWhile (p := fun c : Core => decide (kb c.1 < kb x)) (l := L), List.pairwise_append] at h2
      have h3 := h2.2.1
      rw [hB, List.pairwise_cons] at h3
      exact fun e => hc (List.lt_trans (h3.1 b hb) e)
theorem SoC.put1 {L : List Core} (h : SoC L) (c : Core) : SoC (put1 L c) := by
  obtain ⟨A, B, rfl, hA, h1, h2⟩ := h.split c.1
  obtain ⟨D, hD, hD2⟩ : ∃ D, (A ++ B).drop (if coreIs (A ++ B) c.1 then coreAt (A ++ B) c.1 + 1 else coreAt (A ++ B) c.1) = D ∧ (∀ d ∈ D, d ∈ B ∧ kb c.1 < kb d.1) ∧ D.Pairwise (fun a b => kb a.1 < kb b.1) := by
    have hp := (List.pairwise_append.1 h.1).2.1
    cases B with
    | nil =>
      refine ⟨[], ?_, by simp, List.Pairwise.nil⟩
      rw [List.append_nil, List.drop_of_length_le]
      rw [List.append_nil] at hA
      split <;> omega
    | cons b B =>
      rw [List.pairwise_cons] at hp
      by_cases he : b.1 = c.1
      · have hi : coreIs (A ++ b :: B) c.1 = true := by unfold coreIs; rw [hA, List.getElem?_append_right (Nat.le_refl _), Nat.sub_self]; simp [he]
        refine ⟨B, ?_, fun d hd => ⟨List.mem_cons_of_mem _ hd, he ▸ hp.1 d hd⟩, hp.2⟩
        rw [hi, if_pos rfl, hA, List.drop_append, List.drop_of_length_le (by omega), show A.length + 1 - A.length = 1 by omega]
        rfl
      · have hi : coreIs (A ++ b :: B) c.1 = false := by unfold coreIs; rw [hA, List.getElem?_append_right (Nat.le_refl _), Nat.sub_self]; simp [he]
        have hlt : kb c.1 < kb b.1 := by
          by_cases e : kb c.1 < kb b.1
          · exact e
          · exact absurd (kb_inj (lt_tri (h2 b List.mem_cons_self) e)) he
        refine ⟨b :: B, ?_, fun d hd => ⟨hd, ?_⟩, List.pairwise_cons.2 hp⟩
        · rw [hi, if_neg (by simp), hA, List.drop_left]
        · rcases List.mem_cons.1 hd with rfl | hd
          · exact hlt
          · exact List.lt_trans hlt (hp.1 d hd)
  have hAs := (List.pairwise_append.1 h.1).1
  have hT : (A ++ B).take (coreAt (A ++ B) c.1) = A := by rw [hA, List.take_left]
  unfold Go.Proofs.YtefpigakhhfcaaaDoor.put1
  rw [hD, hT]
  refine ⟨?_, fun x hx => ?_⟩
  · rw [List.pairwise_append, List.pairwise_append]
    refine ⟨⟨hAs, ?_, fun a ha b hb => ?_⟩, hD2.2, fun a ha d hd => ?_⟩
    · split
      · exact List.Pairwise.nil
      · simp
    · split at hb
      · cases hb
      · rw [List.mem_singleton.1 hb]; exact h1 a ha
    · have hd2 := (hD2.1 d hd).2
      rcases List.mem_append.1 ha with ha | ha
      · exact List.lt_trans (h1 a ha) hd2
      · split at ha
        · cases ha
        · rw [List.mem_singleton.1 ha]; exact hd2
  · rcases List.mem_append.1 hx with hx | hx
    · rcases List.mem_append.1 hx with hx | hx
      · exact h.2 x (List.mem_append_left _ hx)
      · split at hx
        · cases hx
        · rw [List.mem_singleton.1 hx]
    · exact h.2 x (List.mem_append_right _ (hD2.1 x hx).1)
theorem SoC.putC {L : List Core} (h : SoC L) (M : List Core) : SoC (putC L M) := by
  induction M generalizing L with
  | nil => exact h
  | cons c M ih => exact ih (h.put1 c)
theorem SoC.nil : SoC [] := ⟨List.Pairwise.nil, by simp⟩
theorem SoC.foldP (parts : List (List PV)) : SoC (foldP parts) := by
  have : ∀ (parts : List (List PV)) (L : List Core), SoC L → SoC (parts.foldl (fun L l => Go.Proofs.YtefpigakhhfcaaaDoor.putC L (l.map PV.core)) L) := by
    intro parts
    induction parts with
    | nil => exact fun L h => h
    | cons l parts ih => exact fun L h => ih _ (h.putC _)
  exact this parts [] SoC.nil
/-- What rises, put onto what is less, is behind it. -/
theorem SoC.again {L M : List Core} (h : SoC (L ++ M)) : Go.Proofs.YtefpigakhhfcaaaDoor.putC L M = L ++ M := by
  induction M generalizing L with
  | nil => rw [List.append_nil]; rfl
  | cons c M ih =>
    have hc := h.2 c (by simp)
    have hL : ∀ a ∈ L, kb a.1 < kb c.1 := fun a ha => (List.pairwise_append.1 h.1).2.2 a ha c List.mem_cons_self
    have hat : coreAt L c.1 = L.length := by
      unfold coreAt
      rw [tw_all fun a ha => decide_eq_true (hL a ha)]
    have h1 : Go.Proofs.YtefpigakhhfcaaaDoor.put1 L c = L ++ [c] := by
      have hi : coreIs L c.1 = false := by unfold coreIs; rw [hat, List.getElem?_eq_none (Nat.le_refl _)]
      obtain ⟨k, b, g⟩ := c
      simp only at hc hat hi
      subst hc
      unfold Go.Proofs.YtefpigakhhfcaaaDoor.put1
      simp only [hat, hi, List.take_length, Bool.false_eq_true, if_false, List.drop_length, List.append_nil]
    show Go.Proofs.YtefpigakhhfcaaaDoor.putC (Go.Proofs.YtefpigakhhfcaaaDoor.put1 L c) M = _
    rw [h1, ih (by rw [List.append_assoc]; exact h), List.append_assoc]
    rfl
theorem foldP_flat (parts : List (List PV)) : foldP parts = Go.Proofs.YtefpigakhhfcaaaDoor.putC [] (parts.flatten.map PV.core) := by
  have : ∀ (parts : List (List PV)) (L : List Core), parts.foldl (fun L l => Go.Proofs.YtefpigakhhfcaaaDoor.putC L (l.map PV.core)) L = Go.Proofs.YtefpigakhhfcaaaDoor.putC L (parts.flatten.map PV.core) := by
    intro parts
    induction parts with
    | nil => exact fun L => rfl
    | cons l parts ih =>
      intro L
      rw [List.foldl_cons, ih, List.flatten_cons, List.map_append]
      unfold Go.Proofs.YtefpigakhhfcaaaDoor.putC
      rw [List.foldl_append]
  exact this parts []
theorem cut_fold {qs : List PV} {parts parts0 : List (List PV)} (h : Cut qs parts) (h0 : qs.map PV.core = foldP parts0) : foldP parts = qs.map PV.core := by
  rw [foldP_flat, h.flat, h0]
  have := (SoC.foldP parts0).again (L := []) (M := foldP parts0)
  simpa using this
end Go.Proofs.YtefpigakhhfcaaaDoor
end

/-! A log's segments, cut: pure. -/
section
set_option linter.unusedVariables false
set_option linter.unusedSimpArgs false
namespace Go.Proofs.YtefpigakhhfcaaaDoor

def segCut : List Prt → Nat → List Prt
  | [], _ => []
  | p :: ps, n => if n ≤ p.2.length then [(p.1, p.2.take n)] else p :: segCut ps (n - p.2.length)
def logCut (ps : List Prt) (n : Nat) : List Prt := if segCut ps n = [(0, [])] then [] else segCut ps n
/-- What Open makes of the segments that lie there. -/
def logNorm (ps : List Prt) : List Prt := match ps.getLast? with
  | none => []
  | some p => if p.2 = [] ∧ (1 < ps.length ∨ p.1 = 0) then ps.dropLast else ps
theorem logNorm_nil : logNorm [] = [] := rfl
theorem logNorm_snoc (ps : List Prt) (p : Prt) : logNorm (ps ++ [p]) = if p.2 = [] ∧ (ps ≠ [] ∨ p.1 = 0) then ps else ps ++ [p] := by
  unfold logNorm
  rw [List.getLast?_concat]
  simp only [List.length_append, List.length_cons, List.length_nil, List.dropLast_concat]
  have : 1 < ps.length + (0 + 1) ↔ ps ≠ [] := by rw [← List.length_pos_iff]; omega
  simp only [this]
theorem segCut_skip : ∀ (ps qs : List Prt) (n : Nat), (∀ p ∈ ps, True) → (allR ps).length < n → segCut (ps ++ qs) n = ps ++ segCut qs (n - (allR ps).length)
  | [], qs, n, _, _ => by simp [allR]
  | p :: ps, qs, n, _, h => by
    have e : (allR (p :: ps)).length = p.2.length + (allR ps).length := by simp [allR]
    rw [e] at h
    rw [List.cons_append, segCut, if_neg (by omega), segCut_skip ps qs (n - p.2.length) (fun _ _ => trivial) (by omega), e, List.cons_append]
    congr 3
    omega
theorem segCut_end : ∀ (ps qs : List Prt), ps ≠ [] → (∀ p ∈ ps, p.2 ≠ []) → segCut (ps ++ qs) (allR ps).length = ps
  | [], _, h, _ => absurd rfl h
  | [p], qs, _, _ => by simp [segCut, allR]
  | p :: q :: r, qs, _, h => by
    have hq := List.length_pos_iff.2 (h q (by simp))
    have e : (allR (p :: q :: r)).length = p.2.length + (allR (q :: r)).length := by simp [allR]
    have e2 : 0 < (allR (q :: r)).length := by simp [allR]; omega
    rw [List.cons_append, segCut, if_neg (by omega), e, Nat.add_sub_cancel_left, segCut_end (q :: r) qs (by simp) fun x hx => h x (List.mem_cons_of_mem _ hx)]
theorem Cont.ne {ps : List Prt} {p : Prt} {r : List Prt} (h : Cont (ps ++ p :: r)) : ∀ q ∈ ps, q.2 ≠ [] := by
  induction ps with
  | nil => intro q hq; cases hq
  | cons x ps ih =>
    intro q hq
    rcases List.mem_cons.1 hq with rfl | hq
    · cases ps with
      | nil => exact h.2.1
      | cons y z => exact h.2.1
    · exact ih (Cont.tail h) q hq
theorem Cont.left : ∀ {a b : List Prt}, Cont (a ++ b) → Cont a
  | [], _, _ => trivial
  | [_], _, _ => trivial
  | p :: q :: r, b, h => ⟨h.1, h.2.1, Cont.left (a := q :: r) h.2.2⟩
theorem Cont.right : ∀ {a b : List Prt}, Cont (a ++ b) → Cont b
  | [], _, h => h
  | p :: a, b, h => Cont.right (a := a) (Cont.tail h)
/-- What Open makes of what is left is what the cut makes of all. -/
theorem norm_cut {ps rest : List Prt} {f : Nat} {rs more : List (List UInt8)} (h : Cont (ps ++ (f, rs ++ more) :: rest)) : logNorm (ps ++ [(f, rs)]) = logCut (ps ++ (f, rs ++ more) :: rest) ((allR ps).length + rs.length) := by
  rw [logNorm_snoc]
  have hne := Cont.ne h
  by_cases hrs : rs = []
  · subst hrs
    by_cases hps : ps = []
    · subst hps
      by_cases hf : f = 0
      · subst hf
        simp [logCut, segCut, allR]
      · rw [if_neg (by simp [hf])]
        simp only [logCut, List.nil_append, allR, List.flatMap_nil, List.length_nil, segCut, Nat.add_zero, Nat.zero_le, if_true, List.take_zero]
        rw [if_neg (by simp [hf])]
    · rw [if_pos ⟨rfl, .inl hps⟩]
      unfold logCut
      rw [List.length_nil, Nat.add_zero, segCut_end ps _ hps hne]
      rw [if_neg fun e => hne (0, []) (by rw [e]; simp) rfl]
  · rw [if_neg fun e => hrs e.1]
    have hl := List.length_pos_iff.2 hrs
    unfold logCut
    rw [segCut_skip ps _ _ (fun _ _ => trivial) (by omega), Nat.add_sub_cancel_left, segCut, if_pos (show rs.length ≤ (f, rs ++ more).2.length by simp)]
    simp only [List.take_left]
    have hx : ps ++ [(f, rs)] ≠ [(0, [])] := fun e => by
      cases ps with
      | nil => simp at e; exact hrs e.2
      | cons a b => simp at e
    rw [if_neg hx]
theorem allR_append (a b : List Prt) : allR (a ++ b) = allR a ++ allR b := by simp [allR]
/-- A record more. -/
def logPut (ps : List Prt) (b : List UInt8) : List Prt := match ps.getLast? with
  | none => [(0, [b])]
  | some p => if 2048 ≤ szP p then ps ++ [(endP p, [b])] else ps.dropLast ++ [(p.1, p.2 ++ [b])]
theorem logPut_nil (b : List UInt8) : logPut [] b = [(0, [b])] := rfl
theorem logPut_snoc (ps : List Prt) (p : Prt) (b : List UInt8) : logPut (ps ++ [p]) b = if 2048 ≤ szP p then ps ++ [p] ++ [(endP p, [b])] else ps ++ [(p.1, p.2 ++ [b])] := by
  unfold logPut
  rw [List.getLast?_concat]
  simp only [List.dropLast_concat]
theorem Cont.turn : ∀ {ps : List Prt} {p p' : Prt}, Cont (ps ++ [p]) → p'.1 = p.1 → Cont (ps ++ [p'])
  | [], _, _, _, _ => trivial
  | [q], p, p', h, e => ⟨by rw [e]; exact h.1, h.2.1, trivial⟩
  | q :: r :: s, p, p', h, e => ⟨h.1, h.2.1, Cont.turn (ps := r :: s) h.2.2 e⟩
theorem nxtP_snoc (ps : List Prt) (p : Prt) : nxtP (ps ++ [p]) = endP p := by unfold nxtP; rw [List.getLast?_concat]; rfl
theorem szP_ne {p : Prt} (h : 2048 ≤ szP p) : p.2 ≠ [] := fun e => by
  rw [szP_eq, e] at h; simp [sumR] at h
theorem logPut_cont {ps : List Prt} (b : List UInt8) (h : Cont ps) : Cont (logPut ps b) := by
  rcases List.eq_nil_or_concat ps with rfl | ⟨a, q, rfl⟩
  · trivial
  · rw [List.concat_eq_append] at h ⊢
    rw [logPut_snoc]
    split
    · next hs =>
      refine Cont.snoc h (fun _ => (nxtP_snoc a q).symm) fun x hx => ?_
      rcases List.mem_append.1 hx with hx | hx
      · exact Cont.ne h x hx
      · simp at hx; subst hx; exact szP_ne hs
    · exact Cont.turn h rfl
theorem logPut_all (ps : List Prt) (b : List UInt8) : allR (logPut ps b) = allR ps ++ [b] := by
  rcases List.eq_nil_or_concat ps with rfl | ⟨a, q, rfl⟩
  · simp [logPut, allR]
  · rw [List.concat_eq_append, logPut_snoc]
    split <;> simp [allR]
theorem logPut_fst (ps : List Prt) (b : List UInt8) : fstP (logPut ps b) = fstP ps := by
  rcases List.eq_nil_or_concat ps with rfl | ⟨a, q, rfl⟩
  · rfl
  · rw [List.concat_eq_append, logPut_snoc]
    split
    · cases a <;> simp [fstP]
    · cases a <;> simp [fstP]
theorem logPut_ne (ps : List Prt) (b : List UInt8) : logPut ps b ≠ [] := by
  intro e
  have := congrArg allR e
  rw [logPut_all] at this
  simp [allR] at this
end Go.Proofs.YtefpigakhhfcaaaDoor
end

/-! A log's files, fallen: pure. -/
section
set_option linter.unusedVariables false
set_option linter.unusedSimpArgs false
namespace Go.Proofs.YtefpigakhhfcaaaDoor

/-- Some beginning of the record that would stand there. -/
def PartF (n : Nat) (t : List UInt8) : Prop := ∃ (y : List UInt8) (m : Nat), y.length ≤ 32768 ∧ m < (frameB n y).length ∧ t = (frameB n y).take m
theorem PartF.nil (n : Nat) : PartF n [] := ⟨[], 0, by simp, by rw [frameB_len]; simp, by simp⟩
theorem PartF.take {n : Nat} {t : List UInt8} (h : PartF n t) (k : Nat) : PartF n (t.take k) := by
  obtain ⟨y, m, h1, h2, rfl⟩ := h
  exact ⟨y, min k m, h1, by omega, by rw [List.take_take]⟩
theorem frsL_cut (n : Nat) (l : List (List UInt8)) (hl : ∀ b ∈ l, b.length ≤ 32768) (k : Nat) (hk : k ≤ (frsL n l).length) :
    ∃ j t, j ≤ l.length ∧ (frsL n l).take k = frsL n (l.take j) ++ t ∧ PartF (n + j) t ∧ (∀ i, i ≤ l.length → (frsL n (l.take i)).length ≤ k → i ≤ j) := by
  induction l generalizing n k with
  | nil => exact ⟨0, [], Nat.le_refl _, by simp [frsL], PartF.nil _, fun i hi _ => hi⟩
  | cons b l ih =>
    have hb := hl b List.mem_cons_self
    by_cases h : k < (frameB n b).length
    · refine ⟨0, (frameB n b).take k, by simp, ?_, ⟨b, k, hb, h, rfl⟩, fun i hi h2 => ?_⟩
      · simp only [frsL, List.take_zero, List.nil_append]
        rw [List.take_append_of_le_length (by omega)]
      · cases i with
        | zero => exact Nat.le_refl _
        | succ i =>
          simp only [List.take_succ_cons, frsL, List.length_append] at h2
          omega
    · simp only [frsL, List.length_append] at hk
      obtain ⟨j, t, h1, h2, h3, h4⟩ := ih (n + 1) (fun x hx => hl x (List.mem_cons_of_mem _ hx)) (k - (frameB n b).length) (by omega)
      refine ⟨j + 1, t, by simp; omega, ?_, by rw [show n + (j + 1) = n + 1 + j by omega]; exact h3, fun i hi h5 => ?_⟩
      · simp only [frsL, List.take_succ_cons]
        rw [List.take_append, List.take_of_length_le (by omega), h2, List.append_assoc]
      · cases i with
        | zero => omega
        | succ i =>
          simp only [List.take_succ_cons, frsL, List.length_append] at h5
          simp only [List.length_cons] at hi
          have := h4 i (by omega) (by omega)
          omega
/-- The records are short. -/
def ShortR (ps : List Prt) : Prop := ∀ p ∈ ps, ∀ b ∈ p.2, b.length ≤ 32768
/-- A log's files behind a fall. -/
theorem LogD.fell {d d' : Disk} {nm : ByteArray} {ps : List Prt} {p : Prt} {t : List UInt8} {sf : Nat} (h : LogD d nm (ps ++ [p]) t sf) (hf : ∀ s, FellV (d s) (d' s)) (hc : Cont (ps ++ [p])) (h64 : p.1 < 18446744073709551616) (hs : ShortR (ps ++ [p])) (ht : PartF (endP p) t) :
    ∃ j t', j ≤ p.2.length ∧ LogD d' nm (ps ++ [(p.1, p.2.take j)]) t' (szP (p.1, p.2.take j) + t'.length) ∧ PartF (p.1 + j) t' ∧ (∀ i, i ≤ p.2.length → (frsL p.1 (p.2.take i)).length ≤ sf → i ≤ j) := by
  have hp := h p.1 h64
  rw [lookP_last hc] at hp
  obtain ⟨k, hk1, hk2, hk3⟩ : ∃ k, sf ≤ k ∧ k ≤ (frsP p ++ t).length ∧ d' (fileB nm p.1) = some ((frsP p ++ t).take k, k) := by
    rcases hf (fileB nm p.1) with ⟨e, -⟩ | ⟨b, s, k, e, h1, h2, h3⟩
    · rw [hp] at e; cases e
    · rw [hp] at e
      simp only [Option.some.injEq, Prod.mk.injEq] at e
      obtain ⟨rfl, rfl⟩ := e
      exact ⟨k, h1, h2, h3⟩
  have hoth : ∀ v, v < 18446744073709551616 → v ≠ p.1 → d' (fileB nm v) = d (fileB nm v) := fun v hv hne => by
    have hv' := h v hv
    rcases hf (fileB nm v) with ⟨e, e2⟩ | ⟨b, s, k, e, h1, h2, h3⟩
    · rw [e, e2]
    · have hw : ∃ q, s = b.length ∧ lookP (ps ++ [p]) t sf v = some (b, s) ∧ True ∧ q = v := by
        refine ⟨v, ?_, by rw [← hv', e], trivial, rfl⟩
        rw [e] at hv'
        have : ∀ (ps : List Prt), v ≠ p.1 → some (b, s) = lookP (ps ++ [p]) t sf v → s = b.length := by
          intro ps
          induction ps with
          | nil => intro hne hx; simp [lookP, hne] at hx
          | cons x r ih =>
            intro hne hx
            rw [List.cons_append] at hx
            obtain ⟨y, z, hyz⟩ : ∃ y z, r ++ [p] = y :: z := by cases r with
              | nil => exact ⟨_, _, rfl⟩
              | cons a b => exact ⟨_, _, rfl⟩
            rw [hyz, lookP, ← hyz] at hx
            by_cases hvx : v = x.1
            · rw [if_pos hvx] at hx
              simp only [Option.some.injEq, Prod.mk.injEq] at hx
              rw [hx.1, hx.2]; rfl
            · rw [if_neg hvx] at hx
              exact ih hne hx
        exact this ps hne hv'
      obtain ⟨-, hs', -⟩ := hw
      have : k = b.length := by omega
      subst this
      rw [h3, e, List.take_length, hs']
  have fin : ∀ (q : Prt) (t' : List UInt8), q.1 = p.1 → (frsP p ++ t).take k = frsP q ++ t' → LogD d' nm (ps ++ [q]) t' (szP q + t'.length) := fun q t' hq he v hv => by
    by_cases hvp : v = p.1
    · subst hvp
      have hk4 : k = szP q + t'.length := by
        have e1 := congrArg List.length he
        have e2 : (frsP q ++ t').length = szP q + t'.length := List.length_append
        have e3 : ((frsP p ++ t).take k).length = min k (frsP p ++ t).length := List.length_take
        omega
      rw [hk3, he, ← hq, lookP_last (Cont.turn hc hq), hk4]
    · rw [hoth v hv hvp, h v hv, lookP_turn hq hvp]
  have hsp := hs p (by simp)
  by_cases hkp : (frsP p).length ≤ k
  · refine ⟨p.2.length, t.take (k - (frsP p).length), Nat.le_refl _, ?_, ?_, fun i hi _ => hi⟩
    · rw [List.take_length]
      exact fin p _ rfl (by rw [List.take_append, List.take_of_length_le hkp])
    · exact ht.take _
  · obtain ⟨j, t', h1, h2, h3, h4⟩ := frsL_cut p.1 p.2 hsp k (by have : (frsP p).length = (frsL p.1 p.2).length := rfl; omega)
    refine ⟨j, t', h1, fin (p.1, p.2.take j) t' rfl ?_, h3, fun i hi h5 => h4 i hi (by omega)⟩
    rw [List.take_append_of_le_length (by omega)]
    exact h2
theorem LogD.fell_nil {d d' : Disk} {nm : ByteArray} {t : List UInt8} {sf : Nat} (h : LogD d nm [] t sf) (hf : ∀ s, FellV (d s) (d' s)) : LogD d' nm [] [] 0 := fun v hv => by
  have := h v hv
  rcases hf (fileB nm v) with ⟨e, e2⟩ | ⟨b, s, k, e, -⟩
  · rw [e2]; rfl
  · rw [e] at this; cases this
end Go.Proofs.YtefpigakhhfcaaaDoor
end
