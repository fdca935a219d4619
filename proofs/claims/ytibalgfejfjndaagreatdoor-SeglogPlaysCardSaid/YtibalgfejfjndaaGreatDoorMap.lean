import Derived.Test.YtibalgfejfjndaaGreatDoorMao
/-! A log's Append, whatever lies there; names of segments are full. -/
section
set_option linter.unusedVariables false
set_option linter.unusedSimpArgs false
namespace Go.Proofs.YtibalgfejfjndaaGreatDoor
open Go.RowKit

theorem slAppend_any (w : World) (T F M : Nat) (nm : ByteArray) (ps : List PF) (clock : Nat) (lim arm : Int) (v : Value) (ms : List PM) (sf : Nat) (A : Option Addr) (n c : Nat) (xs : List UInt8) (h : LG w T F M nm ps clock lim arm false v ms false)
    (hp : LAppPre w T F M nm ps v ms sf A n c xs) :
    Calls Tryz.prog 17 #[.pointer (some ⟨T, 0, none⟩), .slice A n c] w (LAppPost w T F M nm ps lim arm v ms sf xs) := by
  rcases List.eq_nil_or_concat ms with rfl | ⟨a, q, rfl⟩
  · exact slAppend_first w T F M nm ps clock lim arm v sf A n c xs h hp
  · rw [List.concat_eq_append] at h hp ⊢
    by_cases hs : szP q.prt < 2048
    · exact slAppend_small w T F M nm ps clock lim arm v a q sf A n c xs h hp hs
    · exact slAppend_big w T F M nm ps clock lim arm v a q sf A n c xs h hp (by omega)
theorem cutP_app (a b : List UInt8) : cutP (a ++ 46 :: b) = cutP a ++ cutP b := by
  induction a with
  | nil => simp [cutP]
  | cons c a ih =>
    rw [List.cons_append, cutP, cutP, ih]
    by_cases hc : (c == 46) = true
    · rw [if_pos hc, if_pos hc]; rfl
    · rw [if_neg hc, if_neg hc]
      cases h : cutP a with
      | nil =>
        exfalso
        cases a with
        | nil => simp [cutP] at h
        | cons x y =>
          unfold cutP at h
          split at h
          · cases h
          · split at h <;> cases h
      | cons p ps => simp
theorem cutP_no {b : List UInt8} (h : ∀ c ∈ b, (c == 46) = false) : cutP b = [b] := by
  induction b with
  | nil => rfl
  | cons c b ih =>
    rw [cutP, if_neg (by rw [h c List.mem_cons_self]; simp), ih fun x hx => h x (List.mem_cons_of_mem _ hx)]
theorem hexc_ok (d k : Nat) (h : d < 16) (hk : 0 < k) : okC k (hexc d) = true ∧ (hexc d == 46) = false := by
  have h1 := hexc_nat d h
  constructor
  · unfold okC
    rw [decide_eq_true_iff, h1]
    by_cases h2 : d < 10
    · rw [if_pos h2]; omega
    · rw [if_neg h2]; omega
  · rw [beq_eq_false_iff_ne]
    intro e
    rw [e] at h1
    have h3 : (46 : UInt8).toNat = 46 := rfl
    rw [h3] at h1
    split at h1 <;> omega
theorem hexN_mem (n v : Nat) : ∀ c ∈ hexN n v, ∃ d, d < 16 ∧ c = hexc d := by
  induction n generalizing v with
  | zero => intro c hc; cases hc
  | succ n ih =>
    intro c hc
    rw [hexN] at hc
    rcases List.mem_append.1 hc with hc | hc
    · exact ih _ c hc
    · exact ⟨v % 16, Nat.mod_lt _ (by decide), List.mem_singleton.1 hc⟩
theorem okFrom_all : ∀ (l : List UInt8) (k : Nat), 0 < k → (∀ c ∈ l, ∀ k, 0 < k → okC k c = true) → okFrom k l = true
  | [], k, _, _ => rfl
  | c :: l, k, hk, h => by
    rw [okFrom, h c List.mem_cons_self k hk, okFrom_all l (k + 1) (by omega) fun x hx => h x (List.mem_cons_of_mem _ hx)]
    rfl
/-- A segment's file may be called so. -/
theorem full_file (nm : ByteArray) (u : Nat) (h : fullB nm = true) (hs : nm.size ≤ 82) : fullB (fileB nm u) = true := by
  unfold fullB at h ⊢
  rw [Bool.and_eq_true] at h ⊢
  obtain ⟨h1, h2⟩ := h
  refine ⟨by rw [decide_eq_true_iff, size_fileB]; omega, ?_⟩
  have e : (fileB nm u).data.toList = nm.data.toList ++ 46 :: (115 :: hexN 16 u) := by
    show (fileL nm.data.toList u).toArray.toList = _
    simp [fileL]
  unfold pieces at h2 ⊢
  rw [e, cutP_app, cutP_no (b := 115 :: hexN 16 u) fun c hc => by
    rcases List.mem_cons.1 hc with rfl | hc
    · rfl
    · obtain ⟨d, hd, rfl⟩ := hexN_mem 16 u c hc
      exact (hexc_ok d 1 hd (by decide)).2]
  rw [List.map_append, List.all_append, h2]
  simp only [List.map_cons, List.map_nil, List.all_cons, List.all_nil, Bool.and_true, Bool.true_and, mkS]
  unfold simpleB
  rw [okFrom, okFrom_all (hexN 16 u) (0 + 1) (by decide) fun c hc k hk => by
    obtain ⟨d, hd, rfl⟩ := hexN_mem 16 u c hc
    exact (hexc_ok d k hd hk).1]
  rw [show okC 0 115 = true from rfl]
  simp [hexN_len]
end Go.Proofs.YtibalgfejfjndaaGreatDoor
end

/-! A log, a whole segment more: its rows are new. -/
section
set_option linter.unusedVariables false
set_option linter.unusedSimpArgs false
namespace Go.Proofs.YtibalgfejfjndaaGreatDoor
open Go.RowKit

theorem LG.add {w w0 w1 : World} {T F M : Nat} {nm : ByteArray} {ps : List PF} {clock : Nat} {lim arm : Int} {dn dead : Bool} {v v' : Value} {ms : List PM} {q : PM} (h : LG w0 T F M nm ps clock lim arm dn v ms dead) (hk : Kept (fun _ => False) w0 w)
    (hq : w.ownsRow 0 30 1 q.rv q.rs.length (q.rs.map BV.val)) (hqo : ∀ r ∈ q.rs, w.ownsRow 0 5 1 r.val r.b.length (r.b.map bv))
    (hqf : ∀ k, q.rv.ownBlock = some k → k ∉ foot F M ps) (hqd : ∀ p ∈ ms, ∀ k, p.rv.ownBlock = some k → q.rv.ownBlock ≠ some k) (hqr : ∀ r ∈ q.rs, ∀ k, r.val.ownBlock = some k → k ∉ foot F M ps)
    (ho : w1.ownsRow 0 61 3 v' (ms.length + 1) (cellsM ms ++ q.cells)) (hg : Grew w w1 v v') :
    LG (w1.setCell ⟨T, 2, none⟩ v') T F M nm ps clock lim arm dn v' (ms ++ [q]) dead ∧ Kept (fun k => k = T ∨ v.ownBlock = some k) w0 (w1.setCell ⟨T, 2, none⟩ v') ∧ (∀ k, v'.ownBlock = some k → v.ownBlock = some k ∨ w0.heap.size ≤ k) := by
  have h0 := h.stay hk
  have hK := hg.kept
  have hT := kF w1 T 2 v'
  have hTl := h0.lb.lt
  have hvT : v.ownBlock ≠ some T := h0.lb.noRow h0.row (by decide)
  have hlb : LB w1 T F nm v dead := h0.lb.kept hK hvT
  have hnew : ∀ k, v'.ownBlock = some k → v.ownBlock = some k ∨ w.heap.size ≤ k := fun k e => by
    rcases hg with ⟨e1, -⟩ | ⟨e1, -⟩
    · exact .inl (e1 ▸ e)
    · rw [e1] at e; injection e with e; exact .inr (by omega)
  have hfl := h0.f.lt
  have st : ∀ {b e s n : Nat} {x : Value} {xs : List Value}, w.ownsRow b e s x n xs → e ≠ 61 → e ≠ 50 → (w1.setCell ⟨T, 2, none⟩ v').ownsRow b e s x n xs := fun {b e s n x xs} hx he he2 => by
    have h1 := own_kept hx hK fun k e1 e2 => own_two he hx h0.row k e1 e2
    exact own_kept h1 hT fun k e1 e2 => hlb.noRow h1 he2 (e2 ▸ e1)
  refine ⟨⟨(h0.f.kept hK fun k hm e => h0.nv k e hm).kept hT fun k hm e => h0.nT (e ▸ hm), hlb.s2 v', ?_, fun p hp => ?_, fun p hp r hr => ?_, h0.nT, fun k e hm => ?_, fun p hp k e hm => ?_, fun p hp r hr k e hm => ?_, ?_⟩, ?_, fun k e => (hnew k e).imp id fun e => Nat.le_trans hk.size e⟩
  · have h1 : w1.ownsRow 0 61 3 v' (ms ++ [q]).length (cellsM (ms ++ [q])) := by
      rw [List.length_append, List.length_singleton, cellsM_append]
      have : cellsM [q] = q.cells := by simp [cellsM]
      rw [this]; exact ho
    exact own_kept h1 hT fun k e e2 => hlb.noRow h1 (by decide) (e2 ▸ e)
  · rcases List.mem_append.1 hp with hp | hp
    · exact st (h0.rr p hp) (by decide) (by decide)
    · rw [List.mem_singleton.1 hp]; exact st hq (by decide) (by decide)
  · rcases List.mem_append.1 hp with hp | hp
    · exact st (h0.own p hp r hr) (by decide) (by decide)
    · rw [List.mem_singleton.1 hp] at hr; exact st (hqo r hr) (by decide) (by decide)
  · rcases hnew k e with e1 | e1
    · exact h0.nv k e1 hm
    · have := hfl k hm; omega
  · rcases List.mem_append.1 hp with hp | hp
    · exact h0.nr p hp k e hm
    · rw [List.mem_singleton.1 hp] at e
      exact hqf k e hm
  · rcases List.mem_append.1 hp with hp | hp
    · exact h0.nq p hp r hr k e hm
    · rw [List.mem_singleton.1 hp] at hr
      exact hqr r hr k e hm
  · rw [List.pairwise_append]
    refine ⟨h0.dj, List.pairwise_singleton _ _, fun a ha b hb k e e2 => ?_⟩
    rw [List.mem_singleton.1 hb] at e2
    exact hqd a ha k e e2
  · exact ((hk.mono fun _ _ e => e.elim).trans' (hK.mono fun k _ e => .inr e)).trans' (hT.mono fun k _ e => .inl e)
end Go.Proofs.YtibalgfejfjndaaGreatDoor
end
