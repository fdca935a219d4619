import Derived.Test.YtibalgfejfjndaaGreatDoorMat
import Derived.Test.YtibalgfejfjndaaGreatDoorMaq
import Derived.Test.YtibalgfejfjndaaGreatDoorMak
import Derived.Test.YtibalgfejfjndaaGreatDoorMag
/-! SeglogPlays: a log cut, pure. -/
section
set_option linter.unusedVariables false
set_option linter.unusedSimpArgs false
namespace Go.Proofs.YtibalgfejfjndaaGreatDoor

theorem segCut_form : ∀ (G : List Prt) (n : Nat), G ≠ [] → n ≤ (allR G).length → ∃ a p rest m, G = a ++ p :: rest ∧ n = (allR a).length + m ∧ m ≤ p.2.length ∧ segCut G n = a ++ [(p.1, p.2.take m)] ∧ (a = [] ∨ 0 < m)
  | [], _, h, _ => absurd rfl h
  | p :: ps, n, _, hn => by
    have e : (allR (p :: ps)).length = p.2.length + (allR ps).length := by simp [allR]
    by_cases h : n ≤ p.2.length
    · exact ⟨[], p, ps, n, rfl, by simp [allR], h, by rw [segCut, if_pos h]; rfl, .inl rfl⟩
    · have hps : ps ≠ [] := fun e2 => by subst e2; simp [allR] at e hn; omega
      obtain ⟨a, q, rest, m, h1, h2, h3, h4, h5⟩ := segCut_form ps (n - p.2.length) hps (by omega)
      refine ⟨p :: a, q, rest, m, by rw [h1]; rfl, ?_, h3, by rw [segCut, if_neg h, h4]; rfl, .inr ?_⟩
      · have : (allR (p :: a)).length = p.2.length + (allR a).length := by simp [allR]
        omega
      · rcases h5 with rfl | h5
        · simp [allR] at h2; omega
        · exact h5
theorem fst_at {a rest : List Prt} {p : Prt} (h : Cont (a ++ p :: rest)) : p.1 = fstP (a ++ p :: rest) + (allR a).length := by
  have h1 : Cont (a ++ [p]) := Cont.left (b := rest) (by rw [List.append_assoc]; exact h)
  rcases List.eq_nil_or_concat a with rfl | ⟨b, q, rfl⟩
  · simp [fstP, allR]
  · rw [List.concat_eq_append] at h1 ⊢
    have h2 : p.1 = endP q := by
      have h3 : Cont ([q] ++ [p]) := Cont.right (a := b) (by rw [← List.append_assoc]; exact h1)
      exact h3.1
    have h4 := nxtP_eq (Cont.left h1)
    rw [nxtP_snoc] at h4
    rw [h2, h4]
    cases b <;> simp [fstP]
/-- What the cut leaves, and how the world finds it. -/
theorem cut_spec {G : List Prt} {n : Nat} (hc : Cont G) (hn : n ≤ (allR G).length) : (logCut G n = [] ∧ (∀ j p, G[j]? = some p → fstP G + n ≤ p.1 ∧ (0 < j ∨ p.1 = 0)) ∧ fstP G = 0 ∧ n = 0) ∨
    ∃ a p rest m, G = a ++ p :: rest ∧ n = (allR a).length + m ∧ m ≤ p.2.length ∧ logCut G n = a ++ [(p.1, p.2.take m)] ∧ p.1 = fstP G + (allR a).length ∧ (∀ j q, a.length < j → G[j]? = some q → fstP G + n ≤ q.1) ∧ (0 < m ∨ (a = [] ∧ p.1 ≠ 0 ∧ m = 0)) := by
  by_cases hG : G = []
  · subst hG
    exact .inl ⟨rfl, fun j p h => by simp at h, rfl, by simpa [allR] using hn⟩
  · obtain ⟨a, p, rest, m, h1, h2, h3, h4, h5⟩ := segCut_form G n hG hn
    have hp : p.1 = fstP G + (allR a).length := by rw [h1] at hc ⊢; exact fst_at hc
    have hbehind : ∀ j q, a.length < j → G[j]? = some q → fstP G + n ≤ q.1 := fun j q hj hq => by
      rw [h1, List.getElem?_append_right (by omega)] at hq
      obtain ⟨i, hi⟩ : ∃ i, j - a.length = i + 1 := ⟨j - a.length - 1, by omega⟩
      rw [hi, List.getElem?_cons_succ] at hq
      have hcr : Cont (p :: rest) := Cont.right (a := a) (by rw [← h1]; exact hc)
      cases rest with
      | nil => simp at hq
      | cons x y =>
        have h6 := (Cont.rise (Cont.tail hcr)).2 q (List.mem_of_getElem? hq)
        have h7 : x.1 = endP p := hcr.1
        have h8 : fstP (x :: y) = x.1 := by simp [fstP]
        unfold endP at h7
        omega
    by_cases h0 : segCut G n = [(0, [])]
    · have hlog : logCut G n = [] := by unfold logCut; rw [if_pos h0]
      rw [h4] at h0
      cases a with
      | cons x y => simp at h0
      | nil =>
        simp only [List.nil_append, List.cons.injEq, and_true, Prod.mk.injEq] at h0
        have hm : m = 0 := by
          have := congrArg List.length h0.2
          rw [List.length_take] at this
          have h9 : min m p.2.length = 0 := this
          omega
        subst hm
        have hn0 : n = 0 := by simpa [allR] using h2
        have hf : fstP G = 0 := by simp [allR] at hp; omega
        refine .inl ⟨hlog, fun j q hq => ?_, hf, hn0⟩
        cases j with
        | zero =>
          rw [h1] at hq
          simp at hq
          subst hq
          exact ⟨by omega, .inr h0.1⟩
        | succ j => exact ⟨hbehind (j + 1) q (by simp) hq, .inl (by omega)⟩
    · refine .inr ⟨a, p, rest, m, h1, h2, h3, by unfold logCut; rw [if_neg h0, h4], hp, hbehind, ?_⟩
      rcases Nat.eq_zero_or_pos m with hm | hm
      · subst hm
        rcases h5 with rfl | h5
        · refine .inr ⟨rfl, fun e => h0 ?_, rfl⟩
          rw [h4, e]; rfl
        · omega
      · exact .inl hm
theorem cut_all {G : List Prt} {n : Nat} (hc : Cont G) (hn : n ≤ (allR G).length) : allR (logCut G n) = (allR G).take n := by
  rcases cut_spec hc hn with ⟨h1, -, -, rfl⟩ | ⟨a, p, rest, m, h1, h2, h3, h4, -⟩
  · rw [h1]; simp [allR]
  · have e1 : allR G = allR a ++ (p.2 ++ allR rest) := by rw [h1, allR_append]; simp [allR]
    have e2 : allR (logCut G n) = allR a ++ p.2.take m := by rw [h4, allR_append]; simp [allR]
    rw [e1, e2, h2, List.take_append, List.take_of_length_le (Nat.le_add_right _ _), Nat.add_sub_cancel_left, List.take_append_of_le_length h3]
theorem cut_fst {G : List Prt} {n : Nat} (hc : Cont G) (hn : n ≤ (allR G).length) : fstP (logCut G n) = fstP G := by
  rcases cut_spec hc hn with ⟨h1, -, h2, -⟩ | ⟨a, p, rest, m, h1, h2, h3, h4, -⟩
  · rw [h1, h2]; rfl
  · rw [h4, h1]; cases a <;> simp [fstP]
/-- What a record more makes safe. -/
def putSafe (G : List Prt) (s : Nat) : Nat := match G.getLast? with
  | none => 0
  | some p => if 2048 ≤ szP p then (allR G).length else s
theorem putSafe_nil (s : Nat) : putSafe [] s = 0 := rfl
theorem putSafe_snoc (a : List Prt) (p : Prt) (s : Nat) : putSafe (a ++ [p]) s = if 2048 ≤ szP p then (allR (a ++ [p])).length else s := by
  unfold putSafe
  rw [List.getLast?_concat]
end Go.Proofs.YtibalgfejfjndaaGreatDoor
end

/-! SeglogPlays: what lies on the disk against what should; pure. -/
section
set_option linter.unusedVariables false
set_option linter.unusedSimpArgs false
namespace Go.Proofs.YtibalgfejfjndaaGreatDoor
open Go.RowKit

theorem sumR_add (a b : List (List UInt8)) : sumR (a ++ b) = sumR a + sumR b := by simp [sumR]
theorem frsL_take_le (f : Nat) (l : List (List UInt8)) (k : Nat) : (frsL f (l.take k)).length ≤ (frsL f l).length := by
  rw [frsN_len, frsN_len]
  have := sumR_add (l.take k) (l.drop k)
  rw [List.take_append_drop] at this
  omega
theorem szP_len (p : Prt) : (frsL p.1 p.2).length = szP p := rfl
theorem Under.cont {D G : List Prt} {s : Nat} (h : Under D G s) : Cont D := by
  obtain ⟨hc, ⟨rfl, -, -⟩ | ⟨ps, f, rs, more, rest, rfl, rfl, -⟩⟩ := h
  · trivial
  · have h1 : Cont (ps ++ [(f, rs ++ more)]) := Cont.left (b := rest) (by rw [List.append_assoc]; exact hc)
    exact Cont.turn h1 rfl
theorem Under.fstD {D G : List Prt} {s : Nat} (h : Under D G s) : fstP D = fstP G := by
  obtain ⟨hc, ⟨rfl, h1, -⟩ | ⟨ps, f, rs, more, rest, rfl, rfl, -⟩⟩ := h
  · rw [h1]; rfl
  · cases ps <;> simp [fstP]
theorem Under.fstN {D G : List Prt} {s : Nat} (h : Under D G s) : fstP (logNorm D) = fstP G := by
  rcases h.fst with h1 | ⟨h1, h2⟩
  · exact h1
  · rw [h1, h2]; rfl
theorem Under.nxtN {D G : List Prt} {s : Nat} (h : Under D G s) : nxtP (logNorm D) = fstP G + (allR D).length := by
  rw [nxtP_eq (logNorm_cont h.cont), h.fstN, logNorm_all]
theorem Under.sml {D G : List Prt} {s n : Nat} (h : Under D G s) (hg : Sml G n) : Sml D n := by
  refine ⟨h.cont, ?_, ?_⟩
  · rw [nxtP_eq h.cont, h.fstD]
    have h1 := h.all.2.1
    have h2 := hg.nx
    rw [nxtP_eq hg.cont] at h2
    omega
  · obtain ⟨hc, ⟨rfl, -, -⟩ | ⟨ps, f, rs, more, rest, rfl, rfl, -⟩⟩ := h
    · intro p hp; cases hp
    · intro p hp b hb
      rcases List.mem_append.1 hp with hp | hp
      · exact hg.len p (by simp [hp]) b hb
      · rw [List.mem_singleton.1 hp] at hb
        exact hg.len (f, rs ++ more) (by simp) b (List.mem_append_left _ hb)
theorem Sml.norm {D : List Prt} {n : Nat} (h : Sml D n) : Sml (logNorm D) n := by
  rcases List.eq_nil_or_concat D with rfl | ⟨a, q, rfl⟩
  · exact h
  · rw [List.concat_eq_append] at h ⊢
    rw [logNorm_snoc]
    split
    · refine ⟨Cont.left h.cont, ?_, fun p hp => h.len p (List.mem_append_left _ hp)⟩
      have h1 := h.nx
      rw [nxtP_eq h.cont, allR_append] at h1
      rw [nxtP_eq (Cont.left h.cont)]
      cases a with
      | nil => simp [fstP, allR]
      | cons x y =>
        have : fstP (x :: y ++ [q]) = fstP (x :: y) := rfl
        rw [this] at h1
        simp only [List.length_append] at h1
        omega
    · exact h
/-- What lies on the disk, when nothing else does. -/
structure LgD (ps : List PF) (D : List Prt) (t : List UInt8) (sf : Nat) : Prop where
  ld : LogD (lk ps) nAb D t sf
  tail : ∀ a q, D = a ++ [q] → PartF (endP q) t ∧ sf ≤ szP q + t.length
  ot : ∀ s, (∀ u, s ≠ fileB nAb u) → lk ps s = none
/-- All of it is safe. -/
def WholeD (D : List Prt) (sf : Nat) : Prop := ∀ a q, D = a ++ [q] → szP q ≤ sf
theorem nAb_size : nAb.size = 3 := rfl
theorem nAb_fullB : fullB nAb = true := by kernel_rfl
theorem LgD.files {ps : List PF} {D : List Prt} {t : List UInt8} {sf n : Nat} (h : LgD ps D t sf) (hn : (ps.map PF.name).Nodup) (hs : Sml D n) : ps.length ≤ n + 1 ∧ ∀ p ∈ ps, p.name.size ≤ 100 := by
  have key : ∀ p ∈ ps, p.name ∈ (D.map Prod.fst).map (fileB nAb) := fun p hp => by
    have h1 : lk ps p.name ≠ none := lk_mem hp
    have h2 : ∃ u, p.name = fileB nAb u := Classical.byContradiction fun hno => h1 (h.ot p.name fun u e => hno ⟨u, e⟩)
    obtain ⟨u, hu⟩ := h2
    rw [fileB_mod] at hu
    have hlt : u % 18446744073709551616 < 18446744073709551616 := Nat.mod_lt _ (by decide)
    rw [hu] at h1 ⊢
    exact List.mem_map_of_mem ((h.ld.mem hlt).1 h1)
  refine ⟨?_, fun p hp => ?_⟩
  · have h1 := len_sub (S := (D.map Prod.fst).map (fileB nAb)) hn (fun x hx => by
      obtain ⟨p, hp, rfl⟩ := List.mem_map.1 hx
      exact key p hp)
    simp only [List.length_map] at h1
    have h2 := hs.few
    omega
  · obtain ⟨u, -, hu⟩ := List.mem_map.1 (key p hp)
    rw [← hu, size_fileB, nAb_size]
    omega
theorem used_fell {ps qs : List PF} (h : All2 Fell ps qs) : usedL qs ≤ usedL ps := by
  induction ps generalizing qs with
  | nil =>
    obtain rfl : qs = [] := List.eq_nil_of_length_eq_zero h.1.symm
    exact Nat.le_refl _
  | cons p ps ih =>
    cases qs with
    | nil => have := h.1; simp at this
    | cons q qs =>
      have h1 := h.2 0 p q rfl rfl
      have h2 := ih (qs := qs) ⟨by have := h.1; simpa using this, fun i a b ha hb => h.2 (i + 1) a b ha hb⟩
      have e1 : usedL (q :: qs) = q.b.length + usedL qs := by simp [usedL]
      have e2 : usedL (p :: ps) = p.b.length + usedL ps := by simp [usedL]
      have h3 : q.b.length ≤ p.b.length := by
        obtain ⟨k, -, -, hk, -⟩ := h1.some_
        rw [hk, List.length_take]
        omega
      omega
/-- What is there behind a fall. -/
theorem LgD.fell {ps qs : List PF} {D G : List Prt} {t : List UInt8} {sf s n : Nat} (h : LgD ps D t sf) (hf : All2 Fell ps qs) (hu : Under D G s) (hs : SafeB D s sf) (hg : Sml G n) (hn : n ≤ 10000) : ∃ D' t' sf', LgD qs D' t' sf' ∧ Under D' G s ∧ SafeB D' s sf' ∧ WholeD D' sf' := by
  have hv := hf.fell
  have hot : ∀ s, (∀ u, s ≠ fileB nAb u) → lk qs s = none := fun s hs => by
    rcases hv s with ⟨-, e⟩ | ⟨b, s', k, e, -⟩
    · exact e
    · rw [h.ot s hs] at e; cases e
  have hsm := hu.sml hg
  rcases List.eq_nil_or_concat D with rfl | ⟨a, p, rfl⟩
  · exact ⟨[], [], 0, ⟨h.ld.fell_nil hv, fun a q e => by simp at e, hot⟩, hu, fun a q e => by simp at e, fun a q e => by simp at e⟩
  · rw [List.concat_eq_append] at *
    obtain ⟨j, t', h1, h2, h3, h4⟩ := h.ld.fell hv hu.cont (by have := (hsm.one (p := p) (by simp)).1; omega) hsm.short (h.tail a p rfl).1
    have hu' := hu.cut hs h1 h4
    refine ⟨_, t', _, ⟨h2, fun a' q e => ?_, hot⟩, hu', fun a' q e => ?_, fun a' q e => ?_⟩
    · obtain ⟨rfl, e2⟩ := List.append_inj' e rfl
      simp only [List.cons.injEq, and_true] at e2
      subst e2
      refine ⟨?_, Nat.le_refl _⟩
      have e3 : endP (p.1, p.2.take j) = p.1 + j := by unfold endP; simp only [List.length_take]; omega
      rw [e3]; exact h3
    · obtain ⟨rfl, e2⟩ := List.append_inj' e rfl
      simp only [List.cons.injEq, and_true] at e2
      subst e2
      refine ⟨hu'.all.1, Nat.le_trans (frsL_take_le _ _ _) (Nat.le_add_right _ _)⟩
    · obtain ⟨rfl, e2⟩ := List.append_inj' e rfl
      simp only [List.cons.injEq, and_true] at e2
      subst e2
      exact Nat.le_add_right _ _
/-- Behind Open all of it is safe, if it was. -/
theorem norm_safe {D : List Prt} {sf : Nat} (hw : WholeD D sf) : SafeB (logNorm D) (allR D).length (sfNorm D sf) := by
  rcases List.eq_nil_or_concat D with rfl | ⟨a, q, rfl⟩
  · intro ps p e; simp [logNorm_nil] at e
  · rw [List.concat_eq_append] at *
    have hq := hw a q rfl
    by_cases hd : q.2 = [] ∧ (0 < a.length ∨ q.1 = 0)
    · obtain ⟨e1, e2⟩ := drop_norm hd sf
      rw [e1, e2]
      intro ps p e
      subst e
      have e3 : allR (ps ++ [p] ++ [q]) = allR (ps ++ [p]) := by rw [allR_append]; simp [allR, hd.1]
      rw [e3, List.getLast?_concat]
      refine ⟨Nat.le_refl _, ?_⟩
      exact frsL_take_le _ _ _
    · obtain ⟨e1, e2⟩ := keep_norm hd sf
      rw [e1, e2]
      intro ps p e
      obtain ⟨rfl, e3⟩ := List.append_inj' e rfl
      simp only [List.cons.injEq, and_true] at e3
      subst e3
      refine ⟨Nat.le_refl _, ?_⟩
      have h1 := frsL_take_le q.1 q.2 ((allR (a ++ [q])).length - (allR a).length)
      rw [szP_len] at h1
      omega
theorem norm_keep {G : List Prt} {s sf : Nat} (hn : logNorm G = G) (hs : SafeB G s sf) : SafeB G s (sfNorm G sf) := by
  rcases List.eq_nil_or_concat G with rfl | ⟨a, q, rfl⟩
  · intro ps p e; simp at e
  · rw [List.concat_eq_append] at *
    by_cases hd : q.2 = [] ∧ (0 < a.length ∨ q.1 = 0)
    · exfalso
      obtain ⟨e1, -⟩ := drop_norm hd sf
      rw [e1] at hn
      have := congrArg List.length hn
      simp at this
    · obtain ⟨-, e2⟩ := keep_norm hd sf
      rw [e2]
      intro ps p e
      obtain ⟨h1, h2⟩ := hs ps p e
      obtain ⟨rfl, e3⟩ := List.append_inj' e rfl
      simp only [List.cons.injEq, and_true] at e3
      subst e3
      have h3 := frsL_take_le q.1 q.2 (s - (allR a).length)
      rw [szP_len] at h3
      exact ⟨h1, by omega⟩
/-- A record more, which may be lost. -/
theorem SafeB.put {G : List Prt} {s sf : Nat} (b : List UInt8) (h : SafeB G s sf) (hs : s ≤ (allR G).length) : SafeB (logPut G b) s (sfPut G sf) := by
  rcases List.eq_nil_or_concat G with rfl | ⟨a, q, rfl⟩
  · have h0 : s = 0 := by simpa [allR] using hs
    subst h0
    intro ps p e
    refine ⟨Nat.zero_le _, ?_⟩
    simp [frsL]
  · rw [List.concat_eq_append] at *
    have e1 : sfPut (a ++ [q]) sf = if 2048 ≤ szP q then 0 else sf := by unfold sfPut; rw [List.getLast?_concat]
    rw [logPut_snoc, e1]
    obtain ⟨h1, h2⟩ := h a q rfl
    by_cases hz : 2048 ≤ szP q
    · rw [if_pos hz, if_pos hz]
      intro ps p e
      obtain ⟨rfl, e3⟩ := List.append_inj' e rfl
      simp only [List.cons.injEq, and_true] at e3
      subst e3
      refine ⟨by rw [allR_append]; simp only [List.length_append]; omega, ?_⟩
      rw [show s - (allR (a ++ [q])).length = 0 by omega]
      simp [frsL]
    · rw [if_neg hz, if_neg hz]
      intro ps p e
      obtain ⟨rfl, e3⟩ := List.append_inj' e rfl
      simp only [List.cons.injEq, and_true] at e3
      subst e3
      have hl : (allR (a ++ [q])).length = (allR a).length + q.2.length := by rw [allR_append]; simp [allR]
      have e5 : (allR [(q.1, q.2 ++ [b])]).length = q.2.length + 1 := by simp [allR]
      refine ⟨by rw [allR_append, List.length_append, e5]; omega, ?_⟩
      simp only
      rw [List.take_append_of_le_length (by omega)]
      exact h2
/-- And what put makes of it. -/
theorem SafeB.putS {G : List Prt} {s sf : Nat} (b : List UInt8) (h : SafeB G s sf) (hs : s ≤ (allR G).length) : SafeB (logPut G b) (putSafe G s) (sfPut G sf) ∧ putSafe G s ≤ (allR (logPut G b)).length := by
  rcases List.eq_nil_or_concat G with rfl | ⟨a, q, rfl⟩
  · rw [putSafe_nil]
    have h0 : s = 0 := by simpa [allR] using hs
    subst h0
    exact ⟨h.put b hs, Nat.zero_le _⟩
  · rw [List.concat_eq_append] at *
    rw [putSafe_snoc]
    by_cases hz : 2048 ≤ szP q
    · rw [if_pos hz]
      refine ⟨?_, by rw [logPut_all]; simp⟩
      have e1 : sfPut (a ++ [q]) sf = 0 := by unfold sfPut; rw [List.getLast?_concat]; exact if_pos hz
      rw [logPut_snoc, if_pos hz, e1]
      intro ps p e
      obtain ⟨rfl, e3⟩ := List.append_inj' e rfl
      simp only [List.cons.injEq, and_true] at e3
      subst e3
      refine ⟨by rw [allR_append (a ++ [q])]; simp only [List.length_append]; omega, ?_⟩
      rw [Nat.sub_self]
      simp [frsL]
    · rw [if_neg hz]
      exact ⟨h.put b hs, by rw [logPut_all]; simp only [List.length_append]; omega⟩
theorem allR_drop (G : List Prt) (j : Nat) : allR G = allR (G.take j) ++ allR (G.drop j) := by rw [← allR_append, List.take_append_drop]
/-- The first segments go. -/
theorem SafeB.dropN {G : List Prt} {s sf : Nat} (j : Nat) (h : SafeB G s sf) : SafeB (G.drop j) (s - (allR (G.take j)).length) sf := fun ps p e => by
  have e1 : G = (G.take j ++ ps) ++ [p] := by rw [List.append_assoc, ← e, List.take_append_drop]
  obtain ⟨h1, h2⟩ := h _ _ e1
  have e2 := congrArg List.length (allR_drop G j)
  rw [List.length_append] at e2
  rw [allR_append, List.length_append] at h2
  refine ⟨by omega, ?_⟩
  rw [show s - (allR (G.take j)).length - (allR ps).length = s - ((allR (G.take j)).length + (allR ps).length) by omega]
  exact h2
theorem norm_last {a : List Prt} {q : Prt} (h : logNorm (a ++ [q]) = a ++ [q]) : q.2 ≠ [] ∨ (a = [] ∧ q.1 ≠ 0) := by
  rw [logNorm_snoc] at h
  by_cases hd : q.2 = [] ∧ (a ≠ [] ∨ q.1 = 0)
  · rw [if_pos hd] at h
    have := congrArg List.length h
    simp at this
  · by_cases h2 : q.2 = []
    · refine .inr ⟨Classical.byContradiction fun hn => hd ⟨h2, .inl hn⟩, fun e => hd ⟨h2, .inr e⟩⟩
    · exact .inl h2
theorem norm_drop {G : List Prt} {j : Nat} (h : logNorm G = G) : logNorm (G.drop j) = G.drop j := by
  rcases List.eq_nil_or_concat (G.drop j) with e | ⟨a, q, e⟩
  · rw [e]; rfl
  · rw [List.concat_eq_append] at e
    have e1 : G = (G.take j ++ a) ++ [q] := by rw [List.append_assoc, ← e, List.take_append_drop]
    rw [e1] at h
    rw [e, logNorm_snoc]
    rcases norm_last h with h1 | ⟨h1, h2⟩
    · rw [if_neg fun x => h1 x.1]
    · have ha : a = [] := (List.append_eq_nil_iff.1 h1).2
      rw [if_neg fun x => x.2.elim (fun y => y ha) fun y => h2 y]
theorem norm_ne {p q : Prt} {r : List Prt} (hc : Cont (p :: q :: r)) (h : logNorm (p :: q :: r) = p :: q :: r) : p.2.length < (allR (p :: q :: r)).length := by
  have e : allR (p :: q :: r) = p.2 ++ allR (q :: r) := rfl
  rw [e, List.length_append]
  rcases List.eq_nil_or_concat (q :: r) with e2 | ⟨a, x, e2⟩
  · cases e2
  · rw [List.concat_eq_append] at e2
    rw [e2] at h ⊢
    have h1 := norm_last (a := p :: a) h
    have h2 := List.length_pos_iff.2 (h1.resolve_right fun y => by cases y.1)
    rw [allR_append, List.length_append]
    have : (allR [x]).length = x.2.length := by simp [allR]
    omega
theorem Cont.fst_lt {G : List Prt} {k j : Nat} (hc : Cont G) (hk : k < j) (hj : j < G.length) : fstP (G.drop k) < fstP (G.drop j) := by
  have h1 : ∀ i (hi : i < G.length), fstP (G.drop i) = (G[i]'hi).1 := fun i hi => by
    rw [List.drop_eq_getElem_cons hi]; rfl
  rw [h1 k (by omega), h1 j hj]
  have h2 := List.pairwise_iff_getElem.1 (Cont.rise hc).1 k j (by simpa using (show k < G.length by omega)) (by simpa using hj) hk
  simpa using h2
theorem logPut_norm (G : List Prt) (b : List UInt8) : logNorm (logPut G b) = logPut G b := (LastNE.put G b).norm
end Go.Proofs.YtibalgfejfjndaaGreatDoor
end

/-! A log that is down: each call answers so; a log beside what it does not turn. -/
section
set_option linter.unusedVariables false
set_option linter.unusedSimpArgs false
namespace Go.Proofs.YtibalgfejfjndaaGreatDoor
open Go.RowKit

/-- What a call of a log that is down leaves. -/
def DownR (w : World) (T F : Nat) (nm : ByteArray) (v : Value) (r : Value) (e : Ending) (w' : World) : Prop := e = .returned r ∧ LB w' T F nm v true ∧ Kept (fun k => k = T) w w'
section
variable {w : World} {T F M : Nat} {nm : ByteArray} {v : Value} {dead dn : Bool} {lim arm : Int}
theorem slSync_down (h : LB w T F nm v dead) (hf : FB w F M lim arm dn) (hd : dead = true ∨ dn = true) : Calls Tryz.prog 23 #[.pointer (some ⟨T, 0, none⟩)] w (DownR w T F nm v (.int .i64 13)) := by
  have HR := Lib.hid (slReady_down w T F M nm v dead dn lim arm h hf hd)
  clear h hf hd
  go_enter Tryz.func23, Tryz.ntmps23
  go_wp2_with (go_at_call 42; refine HR.out.mono ?_; rintro e w9 ⟨rfl, h1, h2⟩; have H1 := Lib.hid h1; have H2 := Lib.hid h2; clear h1 h2)
  go_ret
  exact ⟨rfl, H1.out, H2.out⟩
theorem slAppend_dead (A : Option Addr) (n c : Nat) (h : LB w T F nm v dead) (hf : FB w F M lim arm dn) (hd : dead = true ∨ dn = true) : Calls Tryz.prog 17 #[.pointer (some ⟨T, 0, none⟩), .slice A n c] w (DownR w T F nm v (.tuple #[.int .u64 0, .int .i64 13])) := by
  have HR := Lib.hid (slReady_down w T F M nm v dead dn lim arm h hf hd)
  clear h hf hd
  go_enter Tryz.func17, Tryz.ntmps17
  go_wp2_with (go_at_call 42; refine HR.out.mono ?_; rintro e w9 ⟨rfl, h1, h2⟩; have H1 := Lib.hid h1; have H2 := Lib.hid h2; clear h1 h2)
  go_ret2
  exact ⟨rfl, H1.out, H2.out⟩
theorem slTrim_dead (most : Int) (h : LB w T F nm v dead) (hf : FB w F M lim arm dn) (hd : dead = true ∨ dn = true) : Calls Tryz.prog 24 #[.pointer (some ⟨T, 0, none⟩), .int .i64 most] w (DownR w T F nm v (.tuple #[.int .i64 0, .int .i64 13])) := by
  have HR := Lib.hid (slReady_down w T F M nm v dead dn lim arm h hf hd)
  clear h hf hd
  go_enter Tryz.func24, Tryz.ntmps24
  go_wp2_with fail
  go_step3
  go_wp2_with (go_at_call 42; refine HR.out.mono ?_; rintro e w9 ⟨rfl, h1, h2⟩; have H1 := Lib.hid h1; have H2 := Lib.hid h2; clear h1 h2)
  go_ret2
  exact ⟨rfl, H1.out, H2.out⟩
end
end Go.Proofs.YtibalgfejfjndaaGreatDoor
end

/-! SeglogPlays: the world beside its files and its log; what Start, Crash, Arm and Open make of it. -/
section
set_option linter.unusedVariables false
set_option linter.unusedSimpArgs false
namespace Go.Proofs.YtibalgfejfjndaaGreatDoor
open Go.RowKit

/-- The world beside the files. -/
structure WF (w0 W : World) (B : Nat) (d : Wd) (G : List Prt) (rs : List BV) (N F M : Nat) (ps : List PF) (clock : Nat) (lim arm : Int) (dn : Bool) : Prop where
  g : WG w0 W B d G rs N
  f : FilesAt W F M ps clock lim arm dn
  kw : Kept (fun _ => False) w0 W
  ff : ∀ k ∈ foot F M ps, w0.heap.size ≤ k
  dj : ∀ k, WFoot B d k → k ∉ foot F M ps
/-- The world beside a log. -/
structure WL (w0 W : World) (B : Nat) (d : Wd) (G : List Prt) (rs : List BV) (N T F M : Nat) (ps : List PF) (clock : Nat) (lim arm : Int) (dn : Bool) (v : Value) (ms : List PM) (dead : Bool) : Prop where
  g : WG w0 W B d G rs N
  l : LG W T F M nAb ps clock lim arm dn v ms dead
  kw : Kept (fun _ => False) w0 W
  lf : ∀ k, LFoot T F M ps v ms k → w0.heap.size ≤ k
  dj : ∀ k, WFoot B d k → ¬ LFoot T F M ps v ms k
section
variable {w0 W W' : World} {B N N' T F M : Nat} {d d' : Wd} {G G' : List Prt} {rs rs' : List BV} {ps ps' : List PF} {clock clock' : Nat} {lim lim' arm arm' : Int} {dn dn' dead dead' : Bool} {v v' : Value} {ms ms' : List PM}
theorem WF.stay (h : WF w0 W B d G rs N F M ps clock lim arm dn) (hk : Kept (fun _ => False) W W') : WF w0 W' B d G rs N F M ps clock lim arm dn := ⟨h.g.stay hk, h.f.kept hk (by simp), h.kw.trans' hk, h.ff, h.dj⟩
theorem WF.went (h : WF w0 W B d G rs N F M ps clock lim arm dn) (hw : Went W F M ps ps' clock' lim' arm' dn' W') : WF w0 W' B d G rs N F M ps' clock' lim' arm' dn' :=
  ⟨h.g.kept hw.kept fun k e => h.dj k e, hw.at_, h.kw.trans hw.kept fun i hi e => by have := h.ff i e; omega, fun k hk => (hw.feet k hk).elim (h.ff k) fun e => Nat.le_trans h.kw.size e, fun k e hk => (hw.feet k hk).elim (h.dj k e) fun e2 => by have := h.g.lt k e; omega⟩
theorem WF.own (h : WF w0 W B d G rs N F M ps clock lim arm dn) (hb : FB W' F M lim' arm' dn') (hk : Kept (fun k => k = F) W W') (hl : 0 ≤ lim' ∧ lim' ≤ 4194304) (ha : 0 ≤ arm' ∧ arm' ≤ 9223372036854775807) : WF w0 W' B d G rs N F M ps clock lim' arm' dn' :=
  h.went ⟨h.f.own hk hb hl ha, hk.ofF, fun k e => .inl e⟩
theorem LFoot_lt (h : LG W T F M nAb ps clock lim arm dn v ms dead) : ∀ k, LFoot T F M ps v ms k → k < W.heap.size := fun k e => by
  rcases e with rfl | e | e | ⟨p, hp, e⟩
  · exact h.lb.lt
  · exact h.f.lt k e
  · exact own_ltH h.row k e
  · exact own_ltH (h.rr p hp) k e
theorem WL.wf (h : WL w0 W B d G rs N T F M ps clock lim arm dn v ms dead) : WF w0 W B d G rs N F M ps clock lim arm dn := ⟨h.g, h.l.f, h.kw, fun k e => h.lf k (.inr (.inl e)), fun k e e2 => h.dj k e (.inr (.inl e2))⟩
theorem WL.stay (h : WL w0 W B d G rs N T F M ps clock lim arm dn v ms dead) (hk : Kept (fun _ => False) W W') : WL w0 W' B d G rs N T F M ps clock lim arm dn v ms dead := ⟨h.g.stay hk, h.l.stay hk, h.kw.trans' hk, h.lf, h.dj⟩
/-- The log moves. -/
theorem WL.log (h : WL w0 W B d G rs N T F M ps clock lim arm dn v ms dead) (hm : MvL W T F M ps v ms ps' v' ms' W') (hl : LG W' T F M nAb ps' clock' lim' arm' dn' v' ms' dead') : WL w0 W' B d G rs N T F M ps' clock' lim' arm' dn' v' ms' dead' :=
  ⟨h.g.kept hm.kept fun k e => h.dj k e, hl, h.kw.trans hm.kept fun i hi e => by have := h.lf i e; omega, fun k hk => (hm.feet k hk).elim (h.lf k) fun e => Nat.le_trans h.kw.size e, fun k e hk => (hm.feet k hk).elim (h.dj k e) fun e2 => by have := h.g.lt k e; omega⟩
/-- The world moves. -/
theorem WL.wmv (h : WL w0 W B d G rs N T F M ps clock lim arm dn v ms dead) (hm : WMv w0 W B d W' d') (hg : WG w0 W' B d' G' rs' N') : WL w0 W' B d' G' rs' N' T F M ps clock lim arm dn v ms dead := by
  have hS : ∀ k, LFoot T F M ps v ms k → ¬ WFoot B d k := fun k e e2 => h.dj k e2 e
  have nq : ∀ p ∈ ms, ∀ r ∈ p.rs, ∀ k, r.val.ownBlock = some k → ¬ WFoot B d k := fun p hp r hr k e e2 => by
    have ho := h.l.own p hp r hr
    rcases e2 with rfl | e2 | e2
    · exact h.g.wb.noRow ho (by decide) e
    · obtain ⟨v0, n0, ys, h1, h2⟩ := h.g.rv.own
      exact own_two (by decide) ho h1 k e (by rw [h2]; exact e2)
    · exact own_two (by decide) ho h.g.sv k e e2
  refine ⟨hg, ⟨h.l.f.kept hm.kept fun k e => hS k (.inr (.inl e)), h.l.lb.kept hm.kept (hS T (.inl rfl)), h.l.row.kept hm.kept fun k e => hS k (.inr (.inr (.inl e))), fun p hp => own_kept (h.l.rr p hp) hm.kept fun k e => hS k (.inr (.inr (.inr ⟨p, hp, e⟩))), fun p hp r hr => own_kept (h.l.own p hp r hr) hm.kept fun k e => nq p hp r hr k e, h.l.nT, h.l.nv, h.l.nr, h.l.nq, h.l.dj⟩, h.kw.trans hm.kept fun i hi e => by have := h.g.low i e; omega, h.lf, fun k e hk => (hm.feet k e).elim (fun e2 => h.dj k e2 hk) fun e2 => by have := LFoot_lt h.l k hk; omega⟩
/-- The files' own numbers are set. -/
theorem WL.own (h : WL w0 W B d G rs N T F M ps clock lim arm dn v ms dead) (hb : FB W' F M lim' arm' dn') (hk : Kept (fun k => k = F) W W') (hl : 0 ≤ lim' ∧ lim' ≤ 4194304) (ha : 0 ≤ arm' ∧ arm' ≤ 9223372036854775807) : WL w0 W' B d G rs N T F M ps clock lim' arm' dn' v ms dead :=
  have hw : Went W F M ps ps clock lim' arm' dn' W' := ⟨h.l.f.own hk hb hl ha, hk.ofF, fun k e => .inl e⟩
  h.log (MvL.went hw) (h.l.went hw)
/-- A log that is whole: how much of its last segment is safe. -/
theorem lgD_of {sf n : Nat} (hf : FilesAt W F M ps clock lim arm dn) (hs : Sml G n) (hn : n ≤ 10000) (hl : LogD (lk ps) nAb G [] sf) (ho : ∀ s, (∀ u, s ≠ fileB nAb u) → lk ps s = none) : LgD ps G [] sf := by
  refine ⟨hl, fun a q e => ⟨PartF.nil _, ?_⟩, ho⟩
  have hc := hs.cont
  have h1 := hl q.1 (by have := (hs.one (p := q) (by rw [e]; simp)).1; omega)
  rw [e] at hc h1
  rw [lookP_last hc] at h1
  have := lk_safe hf h1
  simpa [szP, frsP] using this
end
/-- The files, while the log is opened: what lies there, against what should. -/
structure SF (w0 W : World) (B : Nat) (d : Wd) (G : List Prt) (rs : List BV) (N F M : Nat) (lim : Int) (G1 : List Prt) (s1 U : Nat) (wh : Bool) (arm : Int) (dn : Bool) : Prop where
  ex : ∃ ps c D t sf, WF w0 W B d G rs N F M ps c lim arm dn ∧ LgD ps D t sf ∧ Under D G1 s1 ∧ SafeB D s1 sf ∧ (dn = false → wh = true → WholeD D sf) ∧ (dn = false → wh = false → D = G1 ∧ t = [] ∧ logNorm G1 = G1) ∧ usedL ps ≤ U
/-- A log that was opened. -/
structure OL (w0 W : World) (B : Nat) (d : Wd) (G : List Prt) (rs : List BV) (N T F M : Nat) (lim : Int) (G1 : List Prt) (s1 U : Nat) (wh : Bool) : Prop where
  ex : ∃ ps c arm v ms sf D, WL w0 W B d G rs N T F M ps c lim arm false v ms false ∧ prts ms = logNorm D ∧ LgD ps (logNorm D) [] sf ∧ Under D G1 s1 ∧ (wh = true → SafeB (logNorm D) (allR D).length sf) ∧ (wh = false → logNorm D = G1 ∧ D = G1 ∧ SafeB G1 s1 sf) ∧ usedL ps ≤ U
section
variable {w0 W W' : World} {B N T F M : Nat} {d : Wd} {G G1 : List Prt} {rs : List BV} {lim arm : Int} {s1 U n : Nat} {wh dn : Bool}
theorem SF.files (h : SF w0 W B d G rs N F M lim G1 s1 U wh arm dn) (hs : Sml G1 n) (hn : n ≤ 10000) : ∃ ps c D t sf, WF w0 W B d G rs N F M ps c lim arm dn ∧ LgD ps D t sf ∧ Under D G1 s1 ∧ SafeB D s1 sf ∧ (dn = false → wh = true → WholeD D sf) ∧ (dn = false → wh = false → D = G1 ∧ t = [] ∧ logNorm G1 = G1) ∧ usedL ps ≤ U ∧ ps.length ≤ 100000 ∧ (∀ p ∈ ps, p.name.size ≤ 1000000) ∧ Sml D n := by
  obtain ⟨ps, c, D, t, sf, hw, hl, hu, hsb, h1, h2, h3⟩ := h.ex
  have hsm := hu.sml hs
  obtain ⟨h4, h5⟩ := hl.files hw.f.names hsm
  exact ⟨ps, c, D, t, sf, hw, hl, hu, hsb, h1, h2, h3, by omega, fun p hp => by have := h5 p hp; omega, hsm⟩
theorem SF.started (h : SF w0 W B d G rs N F M lim G1 s1 U wh arm true) (hs : Sml G1 n) (hn : n ≤ 10000) : Calls Tryz.prog 47 #[.pointer (some ⟨F, 0, none⟩)] W fun e w' => e = .returned (.tuple #[]) ∧ SF w0 w' B d G rs N F M lim G1 s1 U true 0 false := by
  obtain ⟨ps, c, D, t, sf, hw, hl, hu, hsb, h1, h2, h3, h4, h5, h6⟩ := h.files hs hn
  refine (start_down W F M ps c lim arm hw.f (by omega) h5).mono ?_
  rintro e w' ⟨he, qs, hq, ha⟩
  obtain ⟨D', t', sf', g1, g2, g3, g4⟩ := hl.fell ha hu hsb hs hn
  exact ⟨he, qs, c, D', t', sf', hw.went hq, g1, g2, g3, fun _ _ => g4, fun _ e => (by cases e), Nat.le_trans (used_fell ha) h3⟩
theorem SF.startUp (h : SF w0 W B d G rs N F M lim G1 s1 U wh arm false) : Calls Tryz.prog 47 #[.pointer (some ⟨F, 0, none⟩)] W fun e w' => e = .returned (.tuple #[]) ∧ SF w0 w' B d G rs N F M lim G1 s1 U wh 0 false := by
  obtain ⟨ps, c, D, t, sf, hw, hl, hu, hsb, h1, h2, h3⟩ := h.ex
  refine (start_up W F M ps c lim arm hw.f).mono ?_
  rintro e w' ⟨he, hq⟩
  exact ⟨he, ps, c, D, t, sf, hw.went hq, hl, hu, hsb, h1, h2, h3⟩
theorem SF.fallen (h : SF w0 W B d G rs N F M lim G1 s1 U wh arm dn) (hs : Sml G1 n) (hn : n ≤ 10000) {A : Option Addr} {nk c : Nat} (hks : ∀ j, j < nk → ∃ ad z, A = some ad ∧ w0.cell? (ad.add j) = some (.int .i64 z)) : Calls Tryz.prog 20 #[.pointer (some ⟨F, 0, none⟩), .slice A nk c] W fun e w' => e = .returned (.tuple #[]) ∧ SF w0 w' B d G rs N F M lim G1 s1 U true arm true := by
  obtain ⟨ps, c, D, t, sf, hw, hl, hu, hsb, h1, h2, h3, h4, h5, h6⟩ := h.files hs hn
  refine (crash_any W F M ps c lim arm dn A nk _ hw.f (by omega) h5 (Lib.hid fun j hj => ?_)).mono ?_
  · obtain ⟨ad, z, e, hc⟩ := hks j hj
    refine ⟨ad, z, e, fun hm => ?_, hw.kw.cell hc (by simp)⟩
    have h7 := World.block_lt_of_cell? w0 _ hc
    rw [add_block] at h7
    have := hw.ff _ hm
    omega
  · rintro e w' ⟨he, qs, hq, ha⟩
    obtain ⟨D', t', sf', g1, g2, g3, g4⟩ := hl.fell ha hu hsb hs hn
    exact ⟨he, qs, _, D', t', sf', hw.went hq, g1, g2, g3, fun e => (by cases e), fun e => (by cases e), Nat.le_trans (used_fell ha) h3⟩
theorem SF.armed (h : SF w0 W B d G rs N F M lim G1 s1 U wh arm dn) (k : Int) (hk9 : k ≤ 9223372036854775807) : Calls Tryz.prog 19 #[.pointer (some ⟨F, 0, none⟩), .int .i64 k] W fun e w' => e = .returned (.tuple #[]) ∧ SF w0 w' B d G rs N F M lim G1 s1 U wh (armI k) dn := by
  obtain ⟨ps, c, D, t, sf, hw, hl, hu, hsb, h1, h2, h3⟩ := h.ex
  refine (arm_any k W F M lim arm dn hw.f.fb).mono ?_
  rintro e w' ⟨he, hb, hk⟩
  exact ⟨he, ps, c, D, t, sf, hw.own hb hk hw.f.lim0 (by unfold armI; split <;> omega), hl, hu, hsb, h1, h2, h3⟩
theorem SF.opened (h : SF w0 W B d G rs N F M lim G1 s1 U wh arm false) (hs : Sml G1 n) (hn : n ≤ 400) : Calls Tryz.prog 5 #[.pointer (some ⟨F, 0, none⟩), .string ⟨#[97, 46, 98]⟩] W fun e w' =>
    (e = .returned (.tuple #[.pointer none, .int .i64 13]) ∧ arm ≠ 0 ∧ ∃ arm', SF w0 w' B d G rs N F M lim G1 s1 U wh arm' true) ∨ (∃ T2, e = .returned (.tuple #[.pointer (some ⟨T2, 0, none⟩), .int .i64 0]) ∧ OL w0 w' B d G rs N T2 F M lim G1 s1 U wh) := by
  obtain ⟨ps, c, D, t, sf, hw, hl, hu, hsb, h1, h2, h3, h4, h5, h6⟩ := h.files hs (by omega)
  refine (slOpen_any W F M nAb ps c lim arm D t sf hw.f ⟨h6.cont, hl.ld, hl.tail, h6.short, fun p hp => by have := (h6.one hp).2.2; omega, by have := h6.few; omega, by have := h6.nx; omega, by decide, nAb_fullB, h4, h5⟩).mono ?_
  rintro e w' (⟨T2, v', ms', ps', c', arm', rfl, hT, hl', hp, hft, hk, hld, hot, ha, hus⟩ | ⟨ps', c', rfl, ha, hq, hlk⟩)
  · refine .inr ⟨T2, rfl, ps', c', arm', v', ms', _, D, ⟨hw.g.kept hk fun k e => hw.dj k e, hl', hw.kw.trans hk fun i hi e => by have := hw.ff i e; omega, fun k e => (hft k e).elim (hw.ff k) fun e => Nat.le_trans hw.kw.size e, fun k e e2 => (hft k e2).elim (hw.dj k e) fun e3 => by have := hw.g.lt k e; omega⟩, hp, lgD_of hl'.f h6.norm (by omega) hld fun s hs => (hot s hs).trans (hl.ot s hs), hu, fun e => norm_safe (h1 rfl e), fun e => ?_, Nat.le_trans hus h3⟩
    obtain ⟨rfl, -, hn1⟩ := h2 rfl e
    exact ⟨hn1, rfl, norm_keep hn1 hsb⟩
  · refine .inl ⟨rfl, by omega, decA arm, ps', c', D, t, sf, hw.went hq, ⟨by rw [hlk]; exact hl.ld, hl.tail, fun s hs => by rw [hlk]; exact hl.ot s hs⟩, hu, hsb, fun e => (by cases e), fun e => (by cases e), ?_⟩
    rw [used_same hw.f.names hq.at_.names hlk]
    exact h3
theorem OL.armed (h : OL w0 W B d G rs N T F M lim G1 s1 U wh) : Calls Tryz.prog 19 #[.pointer (some ⟨F, 0, none⟩), .int .i64 0] W fun e w' => e = .returned (.tuple #[]) ∧ OL w0 w' B d G rs N T F M lim G1 s1 U wh := by
  obtain ⟨ps, c, arm, v, ms, sf, D, hw, hp, hl, hu, h1, h2, h3⟩ := h.ex
  refine (arm_any 0 W F M lim arm false hw.l.f.fb).mono ?_
  rintro e w' ⟨he, hb, hk⟩
  exact ⟨he, ps, c, _, v, ms, sf, D, hw.own hb hk hw.l.f.lim0 (by decide), hp, hl, hu, h1, h2, h3⟩
theorem SF.wf0 (h : SF w0 W B d G rs N F M lim G1 s1 U wh arm dn) : WG w0 W B d G rs N := by
  obtain ⟨ps, c, D, t, sf, hw, -⟩ := h.ex
  exact hw.g
end
end Go.Proofs.YtibalgfejfjndaaGreatDoor
end

/-! SeglogPlays' world: what cut wants. -/
section
set_option linter.unusedVariables false
set_option linter.unusedSimpArgs false
namespace Go.Proofs.YtibalgfejfjndaaGreatDoor
open Go.RowKit

theorem addr0 (a : Addr) : a.add 0 = a := by
  obtain ⟨b, o, s⟩ := a
  unfold Addr.add
  split <;> simp_all
theorem slice_toBs (W : World) (A : Option Addr) (n c k : Nat) (h1 : k ≤ n) (h2 : n ≤ c) : (Instr.slice 28 (.slice A n c) none (some (.int .i64 (k : Nat))) none).run Tryz.prog W = .ok (.slice A k c) W := by
  have hsz : ∀ W, (sizeOf 30).run Tryz.prog W = .ok 1 W := fun W => by kernel_rfl
  have h3 : (0 : Int) ≤ (k : Int) ∧ (k : Int) ≤ (c : Int) := by omega
  have h4 : (0 : Int) ≤ (0 : Int) ∧ (0 : Int) ≤ (k : Int) := by omega
  simp only [Instr.slice, Sem.run_bind, run_underlying Tryz.underlying28, Result.andThen, Instr.sliceBounds, Instr.sliceBound, asIntOf, Sem.run_pure, if_pos h3, if_pos h4, hsz]
  cases A <;> simp [h3, addr0]
theorem slice_toSg (W : World) (A : Option Addr) (n c k : Nat) (h1 : k ≤ n) (h2 : n ≤ c) : (Instr.slice 29 (.slice A n c) none (some (.int .i64 (k : Nat))) none).run Tryz.prog W = .ok (.slice A k c) W := by
  have hsz : ∀ W, (sizeOf 103).run Tryz.prog W = .ok 2 W := fun W => by kernel_rfl
  have h3 : (0 : Int) ≤ (k : Int) ∧ (k : Int) ≤ (c : Int) := by omega
  have h4 : (0 : Int) ≤ (0 : Int) ∧ (0 : Int) ≤ (k : Int) := by omega
  simp only [Instr.slice, Sem.run_bind, run_underlying Tryz.underlying29, Result.andThen, Instr.sliceBounds, Instr.sliceBound, asIntOf, Sem.run_pure, if_pos h3, if_pos h4, hsz]
  cases A <;> simp [h3, addr0]
section
variable {w0 W W' : World} {B N b : Nat} {d : Wd} {G : List Prt} {rs : List BV}
theorem wNext_raw (hb : WB W B d) (hr : RowS W b 30 d.rv (rs.map BV.val) N) (h64 : d.first + rs.length < 18446744073709551616) : Calls Tryz.prog 31 #[.pointer (some ⟨B, 0, none⟩)] W fun e w' => e = .returned (.int .u64 ((d.first + rs.length : Nat) : Int)) ∧ ∃ m, w' = W.drewN m := by
  obtain ⟨A, c, hv, -, -, -⟩ := hr.read
  have c2 := hb.c2
  have c3 := hb.c3
  obtain ⟨f, hf⟩ : ∃ f, f = d.first := ⟨_, rfl⟩
  obtain ⟨r, hr2⟩ : ∃ r, r = rs.length := ⟨_, rfl⟩
  rw [hv, List.length_map] at c3
  rw [← hf, ← hr2] at h64 ⊢
  rw [← hf] at c2
  rw [← hr2] at c3
  have h5 : IntKind.u64.wrap ((r : Nat) : Int) = (r : Int) := by rw [IntKind.wrap_u64]; omega
  have h6 : IntKind.u64.wrap ((f : Int) + (r : Int)) = ((f + r : Nat) : Int) := by rw [IntKind.wrap_u64]; omega
  obtain ⟨fr, hfr⟩ : ∃ fr, fr = f + r := ⟨_, rfl⟩
  rw [← hfr] at h6 ⊢
  clear hb hr hv h64 hf hr2 hfr
  go_enter Tryz.func31, Tryz.ntmps31
  go_wp2_with fail
  go_quiet (fail)
  go_wp2
  go_ret
  exact ⟨rfl, _, rfl⟩
/-- The first ones of a row of segments. -/
theorem SegAt.pre {v : Value} (h : SegAt W b v G) (k : Nat) (hk : k ≤ G.length) : ∃ A c, v = .slice A G.length c ∧ G.length ≤ c ∧ SegAt W b (.slice A k c) (G.take k) := by
  have hl : ∀ (G : List Prt) k, k ≤ G.length → (cellsS G).take (k * 2) = cellsS (G.take k) := by
    intro G
    induction G with
    | nil => intro k hk; simp [cellsS]
    | cons p G ih =>
      intro k hk
      cases k with
      | zero => simp [cellsS]
      | succ k =>
        rw [show cellsS (p :: G) = [.int .u64 (p.1 : Nat), .int .i64 (szP p : Nat)] ++ cellsS G from rfl, List.take_succ_cons, show cellsS (p :: G.take k) = [.int .u64 (p.1 : Nat), .int .i64 (szP p : Nat)] ++ cellsS (G.take k) from rfl, List.take_append, List.take_of_length_le (by simp; omega)]
        congr 1
        rw [← ih k (by simpa using hk)]
        congr 1
        simp; omega
  rcases h.2 with ⟨hv, h0⟩ | ⟨g, cap, cur, hv, hb, hh, h1, h2, h3, h4⟩
  · refine ⟨none, 0, by rw [hv, h0], by omega, ?_⟩
    have : k = 0 := by omega
    subst this
    exact World.ownsRow_nil _ _ _ _
  · refine ⟨some ⟨g, 0, none⟩, cap, hv, h1, ?_⟩
    unfold SegAt
    rw [List.length_take, Nat.min_eq_left hk]
    refine ⟨by rw [cellsS_len, List.length_take, Nat.min_eq_left hk], .inr ⟨g, cap, cur, rfl, hb, hh, by omega, h2, h3, ?_⟩⟩
    rw [← hl G k hk, ← h4, List.take_take]
    congr 1
    omega
end
end Go.Proofs.YtibalgfejfjndaaGreatDoor
end

/-! SeglogPlays' world: put. -/
section
set_option linter.unusedVariables false
set_option linter.unusedSimpArgs false
namespace Go.Proofs.YtibalgfejfjndaaGreatDoor
open Go.RowKit
section
variable {w0 W : World} {B N : Nat} {d : Wd} {G : List Prt} {rs : List BV}
theorem put_end {W1 w8 : World} {v8 : Value} {G' : List Prt} {r : BV} {o : Obj} (hwb : WB W1 B d) (hrv : RowS W1 w0.heap.size 30 d.rv (rs.map BV.val) N) (hsv : SegAt W1 w0.heap.size d.sv G')
    (hR8 : RowS w8 w0.heap.size 30 v8 (rs.map BV.val ++ [r.val]) (N + 1)) (hg : GrewS (W1.alloc o) w8 d.rv v8) (hall : rs.map BV.b ++ [r.b] = allR G') (hfst : d.first = fstP G') (hsrc : ∀ q ∈ rs, Bs w0 q.A q.b) (hbs : Bs w0 r.A r.b) (hB : w0.heap.size ≤ B) :
    WG w0 (w8.setCell ⟨B, 3, none⟩ v8) B { d with rv := v8 } G' (rs ++ [r]) (N + 1) ∧ WMv w0 W1 B d (w8.setCell ⟨B, 3, none⟩ v8) { d with rv := v8 } := by
  obtain ⟨v0, n0, ys, h1, h2⟩ := hrv.own
  have n1 : ∀ k, d.rv.ownBlock = some k → k ≠ B := fun k e e2 => hwb.noRow h1 (by decide) (by rw [h2, e, e2])
  have n2 : ∀ k, d.sv.ownBlock = some k → k ≠ B := fun k e e2 => hwb.noRow hsv (by decide) (by rw [e, e2])
  have n3 : ∀ k, d.rv.ownBlock = some k → d.sv.ownBlock ≠ some k := fun k e e2 => own_two (by decide) h1 hsv k (by rw [h2]; exact e) e2
  have ha : Kept (fun _ => False) W1 (W1.alloc o) := (Kept.refl _ W1).alloc _
  have hsz := ha.size
  have hk8 : Kept (fun k => d.rv.ownBlock = some k) W1 w8 := (ha.mono fun _ _ e => e.elim).trans' hg.kept
  have hset := kF w8 B 3 v8
  have hBl := hwb.lt
  have n8 : ∀ k, v8.ownBlock = some k → k ≠ B := fun k e => (hg.feet k e).elim (n1 k) fun e => by omega
  refine ⟨⟨(hwb.kept hk8 fun e => n1 B e rfl).set 3 v8 _ rfl, by rw [List.map_append]; exact hR8.kept hset fun k e => n8 k e, own_kept (own_kept hsv hk8 fun k e e2 => n3 k e2 e) hset fun k e => n2 k e, by rw [List.map_append]; exact hall, hfst, fun q hq => ?_, hB⟩, ⟨(hk8.mono fun k _ e => .inr (.inl e)).trans' (hset.mono fun k _ e => .inl e), fun k e => ?_⟩⟩
  · rcases List.mem_append.1 hq with hq | hq
    · exact hsrc q hq
    · rw [List.mem_singleton.1 hq]; exact hbs
  · rcases e with e | e | e
    · exact .inl (.inl e)
    · exact (hg.feet k e).elim (fun e => .inl (.inr (.inl e))) fun e => .inr (by omega)
    · exact .inl (.inr (.inr e))
theorem segs_last {W : World} {b s : Nat} {v : Value} {a : List Prt} {p p' : Prt} (h : SegAt W b v (a ++ [p])) (hs : v.ownBlock = some s) (hf : p'.1 = p.1) : SegAt (W.setCell ⟨s, a.length * 2 + 1, none⟩ (.int .i64 (szP p' : Nat))) b v (a ++ [p']) := by
  have h1 := own_set h hs (a.length * 2 + 1) (.int .i64 (szP p' : Nat)) rfl (by rw [cellsS_len, List.length_append, List.length_singleton]; omega)
  unfold SegAt
  have e : (cellsS (a ++ [p])).set (a.length * 2 + 1) (.int .i64 (szP p' : Nat)) = cellsS (a ++ [p']) := by
    rw [cellsS_snoc, cellsS_snoc, List.set_append_right _ _ (by rw [cellsS_len]; omega), cellsS_len]
    simp [hf]
  rw [e] at h1
  have e2 : (a ++ [p']).length = (a ++ [p]).length := by simp
  rw [e2]
  exact h1
/-- What put leaves. -/
def WPutPost (w0 W : World) (B N : Nat) (d : Wd) (G : List Prt) (rs : List BV) (r : BV) (e : Ending) (w' : World) : Prop :=
  e = .returned (.tuple #[]) ∧ ∃ d', WG w0 w' B d' (logPut G r.b) (rs ++ [r]) (N + 1) ∧ WMv w0 W B d w' d' ∧ d'.safe = putSafe G d.safe ∧ d.Like d'
set_option maxRecDepth 100000 in
set_option maxHeartbeats 16000000 in
theorem wPut_old {a : List Prt} {p : Prt} {r : BV} (h : WG w0 W B d (a ++ [p]) rs N) (hw0 : w0.heap.size ≤ W.heap.size) (hc : Cont (a ++ [p])) (hbs : Bs w0 r.A r.b) (hrn : r.A = none → r.c = 0) (hl : r.b.length ≤ 2000) (ha : a.length ≤ 1000) (hN : N ≤ 1000) (hsz : szP p < 2048) :
    Calls Tryz.prog 32 #[.pointer (some ⟨B, 0, none⟩), .slice r.A r.b.length r.c] W (WPutPost w0 W B N d (a ++ [p]) rs r) := by
  obtain ⟨s, c, hsv, hnc, hcell⟩ := h.sv.cells (by simp)
  obtain ⟨A, cr, hrv, -, hrl, -⟩ := h.rv.read
  have y1 := (hcell a.length p (by simp)).2
  have c3 := h.wb.c3
  have c5 := h.wb.c5
  rw [hrv, List.length_map] at c3
  rw [hsv, List.length_append, List.length_singleton] at c5
  rw [List.length_append, List.length_singleton] at hnc
  obtain ⟨k, hk⟩ : ∃ k, k = a.length := ⟨_, rfl⟩
  obtain ⟨n, hn⟩ : ∃ n, n = k + 1 := ⟨_, rfl⟩
  obtain ⟨z, hz⟩ : ∃ z, z = szP p := ⟨_, rfl⟩
  obtain ⟨lr, hlr⟩ : ∃ lr, lr = r.b.length := ⟨_, rfl⟩
  rw [← hk] at c5 y1 hnc ha
  rw [← hn] at c5 hnc
  rw [← hz] at y1
  rw [← hlr] at hl
  have i0 : (n : Int) - 1 = (k : Int) := by omega
  have i1 : ¬ (2048 : Int) ≤ (z : Int) := by omega
  have i2 : ¬ (n : Int) = 0 := by omega
  have i3 : ((n : Int) == 0) = false := by simp; omega
  have k9 : k < n := by omega
  obtain ⟨z2, hz2⟩ : ∃ z2, z2 = z + 16 + lr := ⟨_, rfl⟩
  have i4 : (z : Int) + 16 + (lr : Int) = (z2 : Int) := by omega
  have HZ : Hid (szP (p.1, p.2 ++ [r.b]) = z2) := Lib.hid (by rw [szP_snoc, ← hz, ← hlr]; omega)
  have hkx := hk
  have fzs := own_fz h.sv (g := s) (by rw [hsv]; rfl)
  have fzB := h.wb.fz 3
  have fz1 : W.frozen? ⟨s, k * 2 + 1, none⟩ = false := fzs _
  have Hsv : Hid (d.sv.ownBlock = some s) := Lib.hid (by rw [hsv]; rfl)
  have Hrv := Lib.hid hrv
  have H := Lib.hid h
  have Hk := Lib.hid hk
  have Hw0 := Lib.hid hw0
  have Hbs := Lib.hid hbs
  have Hlr := Lib.hid hlr
  have Hzz : Hid (szP p = z) := Lib.hid hz.symm
  have HW1 : Hid (∀ W', Kept (fun _ => False) W W' → WB (W'.setCell ⟨s, k * 2 + 1, none⟩ (.int .i64 (z2 : Nat))) B d ∧ SegAt (W'.setCell ⟨s, k * 2 + 1, none⟩ (.int .i64 (z2 : Nat))) w0.heap.size d.sv (a ++ [(p.1, p.2 ++ [r.b])]) ∧ RowS (W'.setCell ⟨s, k * 2 + 1, none⟩ (.int .i64 (z2 : Nat))) w0.heap.size 30 d.rv (rs.map BV.val) N ∧ Kept (fun q => q = s) W (W'.setCell ⟨s, k * 2 + 1, none⟩ (.int .i64 (z2 : Nat)))) := Lib.hid fun W' hk' => by
    have h1 := H.out.stay hk'
    have hs := kF W' s (k * 2 + 1) (.int .i64 (z2 : Nat))
    have hn := H.out.nB
    refine ⟨h1.wb.kept hs fun e => hn.2.1 s Hsv.out e.symm, ?_, h1.rv.kept hs fun q e e2 => hn.2.2 q e (by rw [Hsv.out, e2]), (hk'.mono fun _ _ e => e.elim).trans' hs⟩
    rw [Hk.out, ← HZ.out]
    exact segs_last h1.sv Hsv.out rfl
  have HAll : Hid (rs.map BV.b ++ [r.b] = allR (a ++ [(p.1, p.2 ++ [r.b])])) := Lib.hid (by rw [h.all, allR_append, allR_append]; simp [allR])
  have HFst : Hid (d.first = fstP (a ++ [(p.1, p.2 ++ [r.b])])) := Lib.hid (by rw [h.fst]; cases a <;> simp [fstP])
  have HPut : Hid (logPut (a ++ [p]) r.b = a ++ [(p.1, p.2 ++ [r.b])]) := Lib.hid (by rw [logPut_snoc, if_neg (by omega)])
  have HSafe : Hid (putSafe (a ++ [p]) d.safe = d.safe) := Lib.hid (by rw [putSafe_snoc, if_neg (by omega)])
  have n9 : n ≤ 1001 := by omega
  have k9i : (k : Int) < (n : Int) := by omega
  have kw : IntKind.i64.wrap ((k : Nat) : Int) = (k : Int) := by rw [IntKind.wrap_i64]; omega
  have zw : IntKind.i64.wrap ((z : Int) + 16) = (z : Int) + 16 := by rw [IntKind.wrap_i64]; omega
  have zw2 : IntKind.i64.wrap ((z2 : Nat) : Int) = (z2 : Int) := by rw [IntKind.wrap_i64]; omega
  have k9z : (0 : Int) ≤ (k : Int) := by omega
  have k9t : (k : Int).toNat = k := by omega
  have z9 : z < 2048 := by omega
  rw [← hlr]
  clear h hw0 hc hbs hcell hk hz hlr hz2 fzs hrv hsv hrl hkx hn
  go_enter Tryz.func32, Tryz.ntmps32
  go_upto_region 5 with fail
  go_region_law (fail)
  all_goals
    obtain ⟨W1, hW1⟩ : ∃ W1, W1 = (W.setCell ⟨s, k * 2 + 1, none⟩ (.int .i64 (z2 : Nat))).drew := ⟨_, rfl⟩
    rw [← hW1]
    have hk01 : Kept (fun _ => False) (W.setCell ⟨s, k * 2 + 1, none⟩ (.int .i64 (z2 : Nat))) W1 := by rw [hW1]; exact (Kept.refl _ _).drew
    obtain ⟨b1, b2, b3, b4⟩ := HW1.out W (Kept.refl _ _)
    have HB1 : Hid (WB W1 B d) := Lib.hid (b1.kept hk01 (by simp))
    have HS1 : Hid (SegAt W1 w0.heap.size d.sv (a ++ [(p.1, p.2 ++ [r.b])])) := Lib.hid (own_kept b2 hk01 (by simp))
    have HR1 : Hid (RowS W1 w0.heap.size 30 d.rv (rs.map BV.val) N) := Lib.hid (b3.kept hk01 (by simp))
    have HK1 : Hid (Kept (fun q => q = s) W W1) := Lib.hid (b4.trans' (hk01.mono fun _ _ e => False.elim e))
    have d3 := HB1.out.c3
    rw [Hrv.out, List.length_map] at d3
    clear b1 b2 b3 b4 hk01 hW1 c3 c5 y1 fzB fz1
    go_wp2_with (at_builtin; refine wpList_append_s elemBs rfl _ _ rfl w0.heap.size d.rv (rs.map BV.val) N (by rw [Hrv.out, List.length_map]; rfl) (HR1.out.kept ((Kept.refl (fun _ => False) W1).alloc _) (by simp)) _ 1 1 [.slice r.A lr r.c] rfl (cs_new _ _ _) rfl (by simp [Value.oneCell']) (by omega) (Nat.le_trans (Nat.le_trans Hw0.out HK1.out.size) ((Kept.refl (fun _ => False) W1).alloc _).size) ?_; intro v8 w8 hR8 hg8; obtain ⟨A8, c8, e9, -, -, -⟩ := hR8.read; obtain ⟨l8, h9⟩ : ∃ l, l = (rs.map BV.val ++ [Value.slice r.A lr r.c]).length := ⟨_, rfl⟩; rw [← h9] at e9; subst e9; clear h9; have HR8 := Lib.hid hR8; have HG8 := Lib.hid hg8; have hb8 : WB w8 B d := HB1.out.kept ((((Kept.refl (fun _ => False) W1).alloc _).mono fun _ _ e => False.elim e).trans' hg8.kept) (fun e => H.out.nB.1 B e rfl); have f8 := hb8.fz 3; have g8 := hb8.c3; clear hR8 hg8 hb8)
    go_end0
    have hR := HR8.out
    have e8 : Value.slice r.A lr r.c = r.val := by rw [Hlr.out]; rfl
    rw [e8] at hR
    have hE := put_end HB1.out HR1.out HS1.out hR HG8.out HAll.out HFst.out H.out.src Hbs.out H.out.hB
    have m1 : WMv w0 W B d W1 d := ⟨HK1.out.mono fun x _ e => .inr (.inr (by rw [Hsv.out, e])), fun x e => .inl e⟩
    exact ⟨rfl, _, by rw [HPut.out]; exact hE.1, m1.trans hE.2, HSafe.out.symm, ⟨rfl, rfl, rfl, rfl, rfl, rfl⟩⟩
end
end Go.Proofs.YtibalgfejfjndaaGreatDoor
end
