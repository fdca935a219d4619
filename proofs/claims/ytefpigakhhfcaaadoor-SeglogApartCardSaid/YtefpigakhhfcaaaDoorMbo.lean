import Derived.Test.YtefpigakhhfcaaaDoorMbi
/-! A range over a function whose rounds are handed something new each time (a copy, say), and whose iterator makes blocks of its own between the rounds. -/
section
set_option linter.unusedVariables false
set_option linter.unusedSimpArgs false
namespace Go.Proofs.YtefpigakhhfcaaaDoor
open Go.RowKit

/-- The iterator gf tells xs, in order, each with something of which ok holds; or a part, a round having said 'no more'. S: what a round may turn. -/
def IterF {α β : Type} (P : Program) (gf : Nat) (lb : Array Value) (encs : α → β → Array Value) (ok : α → β → World → Prop) (own rd : Nat → Prop) (xs : List α) (w : World) : Prop :=
  ∀ (l : Nat) (J : List (α × β) → (Nat → Prop) → World → Prop) (Jx : List (α × β) → World → Prop) (S0 : Nat → Prop) (W : World), Kept (fun _ => False) w W →
    (∀ pre S A B, J pre S A → Kept own A B → J pre S B) → (∀ pre A B, Jx pre A → Kept own A B → Jx pre B) →
    (∀ pre S A, J pre S A → ∀ k, S k → k < A.heap.size ∧ ¬ rd k) →
    (∀ pre S x v post W1, xs = pre.map Prod.fst ++ x :: post → J pre S W1 → ok x v W1 → YieldAt Fence.wide 7 P l (encs x v) W1 fun e W' =>
      (e = .returned (.bool true) ∧ ∃ S', J (pre ++ [(x, v)]) S' W' ∧ Kept S W1 W' ∧ ∀ k, S' k → S k ∨ W1.heap.size ≤ k) ∨ (e = .returned (.bool false) ∧ Jx (pre ++ [(x, v)]) W')) →
    J [] S0 W →
    CallsIn Fence.wide 8 P gf (#[.func (.yield l) #[] #[]] ++ lb) W fun e W' => (∃ v, e = .returned v) ∧ ((∃ ys S, ys.map Prod.fst = xs ∧ J ys S W') ∨ ∃ pre, pre.map Prod.fst <+: xs ∧ Jx pre W')

/-- How a round may be left. -/
def roundPostF {γ : Type} (D : Nat) (S : Nat → Prop) (I : List γ → (Nat → Prop) → World → Prop) (Ix : Code → List γ → World → Prop) (xs : List γ) (W : World) : Exit → Act → World → Prop
  | .normal, _, W' => ∃ S', I xs S' W' ∧ Kept S W W' ∧ ∀ k, S' k → S k ∨ W.heap.size ≤ k
  | .ret, _, W' => (∀ k, (k = D ∨ k = D + 1) → W'.heap[k]? = W.heap[k]?) ∧ Ix .ret xs W'
  | .exit id, _, W' => (∀ k, (k = D ∨ k = D + 1) → W'.heap[k]? = W.heap[k]?) ∧ Ix (.exit id) xs W'
  | .goto t, _, W' => (∀ k, (k = D ∨ k = D + 1) → W'.heap[k]? = W.heap[k]?) ∧ Ix (.goto t) xs W'
  | .panic _, _, _ => False
  | .outgrown, _, _ => False

/-- The law. D: the block of the rounds' deferred calls; D + 1: the loop's record. -/
theorem wp_rangeF {α β : Type} {P : Program} {g : Operand} {ps : Array Tmp} {assign body : Code} {Q : Exit → Act → World → Prop} {a : Act} {w : World}
    {gf : Nat} {lb : Array Value} (hg : a.eval g = .func (.func gf) #[] lb) (eg : ∀ args w, (callFunc gf args).run P w = .ok (.enter gf args) w)
    {encs : α → β → Array Value} {ok : α → β → World → Prop} {own rd : Nat → Prop} {xs : List α} (hit : IterF P gf lb encs ok own rd xs w) (hps : ∀ x v, (encs x v).size = ps.size)
    (ho : ∀ k, own k → k < w.heap.size) (hr : ∀ k, rd k → k < w.heap.size)
    (I : List (α × β) → (Nat → Prop) → World → Prop) (Ix : Code → List (α × β) → World → Prop) (S0 : Nat → Prop)
    (hI : ∀ pre S A B, I pre S A → Kept (fun k => own k ∨ k = w.heap.size ∨ k = w.heap.size + 1) A B → I pre S B)
    (hIx : ∀ c pre A B, Ix c pre A → Kept (fun k => own k ∨ k = w.heap.size ∨ k = w.heap.size + 1) A B → Ix c pre B)
    (hS : ∀ pre S A, I pre S A → ∀ k, S k → k < A.heap.size ∧ ¬ rd k ∧ k ≠ w.heap.size ∧ k ≠ w.heap.size + 1)
    (h0 : I [] S0 w) (a₁ : α → β → Act)
    (hassign : ∀ (l : Nat) (x : α) (v : β) (W : World) (K : Act → World → Prop), K (a₁ x v) W →
      assign.wpIn (Fence.wide.inRound l) 7 P (Exit.then K (fun _ _ _ => False)) { tmps := (ps.zip (encs x v)).foldl (fun t (p, v) => t.setIfInBounds p v) a.tmps, defers := [] } W)
    (hbody : ∀ (l : Nat) (pre : List (α × β)) (S : Nat → Prop) (x : α) (v : β) (post : List α) (W0 W : World), xs = pre.map Prod.fst ++ x :: post → I pre S W → ok x v W0 → Kept (fun k => k = w.heap.size + 1) W0 W → (∃ r, W0.heap[w.heap.size + 1]? = some (.loop r)) → W0.heap[w.heap.size]? = some (.deferred (some [])) → w.heap.size + 2 ≤ W.heap.size →
      body.wpIn (Fence.wide.inRound l) 7 P (roundPostF w.heap.size S I Ix (pre ++ [(x, v)]) W) (a₁ x v) W)
    (hdone : ∀ (ys : List (α × β)) (S : Nat → Prop) (W : World), ys.map Prod.fst = xs → I ys S W → W.heap[w.heap.size]? = some (.deferred (some [])) → Q .normal { a with defers := { target := .collected w.heap.size, args := #[] } :: a.defers } W)
    (hstop : ∀ (c : Code) (pre : List (α × β)) (W : World), pre.map Prod.fst <+: xs → Ix c pre W → W.heap[w.heap.size]? = some (.deferred (some [])) → c.wp P Q { a with defers := { target := .collected w.heap.size, args := #[] } :: a.defers } W) :
    (Code.rangeFunc g ps assign body).wp P Q a w := by
  refine (wpIn_wide (n := 9)).1 (wpIn_rangeFunc ?_)
  intro fn hfn
  obtain ⟨rec, hrec⟩ : ∃ rec : LoopState → Option Code → Loop, rec = fun st pe => { state := st, pending := pe, fn, tmps := a.tmps, params := ps, assign, body, defers := w.heap.size } := ⟨_, rfl⟩
  obtain ⟨W1, hW1⟩ : ∃ W1, (w.alloc (.deferred (some []))).alloc (.loop (rec .ready none)) = W1 := ⟨_, rfl⟩
  have hL1 : W1.heap[w.heap.size + 1]? = some (.loop (rec .ready none)) := by
    rw [← hW1]; have := World.alloc_heap_new (w.alloc (.deferred (some []))) (.loop (rec .ready none)); rwa [World.size_alloc] at this
  have hK1 : W1.heap[w.heap.size]? = some (.deferred (some [])) := by
    rw [← hW1]; exact (Below.heap_alloc _ _ _ (by simp)).trans (World.alloc_heap_new w _)
  have hk1 : Kept (fun _ => False) w W1 := by rw [← hW1]; exact ((Kept.refl _ w).alloc _).alloc _
  have hI1 : I [] S0 W1 := hI _ _ _ _ h0 (hk1.mono fun _ _ h => h.elim)
  have no : ∀ k, own k → k ≠ w.heap.size ∧ k ≠ w.heap.size + 1 := fun k h => ⟨by have := ho k h; omega, by have := ho k h; omega⟩
  refine ⟨w.heap.size + 1, [{ target := .collected w.heap.size, args := #[] }], W1, { target := .fn (.func gf) lb, args := #[.func (.yield (w.heap.size + 1)) #[] #[]] }, W1, gf,
    #[.func (.yield (w.heap.size + 1)) #[] #[]] ++ lb, W1, ?_, ?_, fun _ _ => trivial, ?_, fun _ => by omega, ?_⟩
  · rw [← hW1, hrec]; exact run_enterLoop_outer _ _ _ _ _
  · simp only [resolve, hg]
    simp [go_sem]
  · simp [invoke, go_sem, eg]
  · refine (hit (w.heap.size + 1)
      (fun pre S W => (∃ S1, S = (fun k => S1 k ∨ k = w.heap.size + 1) ∧ I pre S1 W ∧ W1.heap.size ≤ W.heap.size) ∧ W.heap[w.heap.size + 1]? = some (.loop (rec .ready none)) ∧ W.heap[w.heap.size]? = some (.deferred (some [])))
      (fun pre W => ∃ c, Ix c pre W ∧ W.heap[w.heap.size + 1]? = some (.loop (rec .done (some c))) ∧ W.heap[w.heap.size]? = some (.deferred (some [])))
      _ W1 hk1
      (fun pre S A B hs hk => by
        obtain ⟨⟨S1, e, hi, hz⟩, hl, hd⟩ := hs
        exact ⟨⟨S1, e, hI _ _ _ _ hi (hk.mono fun _ _ h => .inl h), Nat.le_trans hz hk.size⟩, hk.heap hl (fun h => (no _ h).2 rfl), hk.heap hd (fun h => (no _ h).1 rfl)⟩)
      (fun pre A B hs hk => by
        obtain ⟨c, hc, hl, hd⟩ := hs
        exact ⟨c, hIx _ _ _ _ hc (hk.mono fun _ _ h => .inl h), hk.heap hl (fun h => (no _ h).2 rfl), hk.heap hd (fun h => (no _ h).1 rfl)⟩)
      (fun pre S A hs k hk => by
        obtain ⟨⟨S1, rfl, hi, hz⟩, hl, hd⟩ := hs
        rcases hk with hk | hk
        · exact ⟨(hS _ _ _ hi k hk).1, (hS _ _ _ hi k hk).2.1⟩
        · subst hk
          exact ⟨(Array.getElem?_eq_some_iff.1 hl).1, fun h => by have := hr _ h; omega⟩)
      ?_ ⟨⟨S0, rfl, hI1, Nat.le_refl _⟩, hL1, hK1⟩).mono ?_
    · -- one round
      rintro pre S x v post W hxs ⟨⟨S1, rfl, hi, hsz⟩, hl, hk⟩ hov
      have hlt : w.heap.size + 1 < W.heap.size := (Array.getElem?_eq_some_iff.1 hl).1
      have hy := run_yield (P := P) (args := encs x v) hl (by rw [hrec]; exact hps x v)
      rw [hrec] at hy
      refine ⟨fn, _, assign, body, hy, roundIn_of_wpIn trivial (hassign _ x v W _ ⟨_, run_beginRound hl (by rw [hrec]), ?_⟩)⟩
      obtain ⟨W2, hW2⟩ : ∃ W2, W2 = W.putObj (w.heap.size + 1) (.loop { rec .ready none with state := .busy }) := ⟨_, rfl⟩
      rw [← hW2]
      have kp2 : Kept (fun k => k = w.heap.size + 1) W W2 := by rw [hW2]; exact putObj_kept _ _ _
      have hl2 : W2.heap[w.heap.size + 1]? = some (.loop { rec .ready none with state := .busy }) := by rw [hW2]; exact World.putObj_heap_same hlt
      have hk2 : W2.heap[w.heap.size]? = some (.deferred (some [])) := kp2.heap hk (by omega)
      have hs2 : W2.heap.size = W.heap.size := by rw [hW2]; simp [World.putObj]
      have hi2 : I pre S1 W2 := hI _ _ _ _ hi (kp2.mono fun _ _ h => .inr (.inr h))
      refine wpIn_mono (hbody _ pre S1 x v post W W2 hxs hi2 hov kp2 ⟨_, hl⟩ hk (by omega)) ?_
      have fin : ∀ (jump : Option Code) (W3 : World), (∀ k, (k = w.heap.size ∨ k = w.heap.size + 1) → W3.heap[k]? = W2.heap[k]?) →
          (Instr.endRound (w.heap.size + 1) jump).run P W3 = .ok (.bool jump.isNone) (W3.putObj (w.heap.size + 1) (.loop (rec (if jump.isNone then .ready else .done) jump))) ∧
          (W3.putObj (w.heap.size + 1) (.loop (rec (if jump.isNone then .ready else .done) jump))).heap[w.heap.size + 1]? = some (.loop (rec (if jump.isNone then .ready else .done) jump)) ∧
          (W3.putObj (w.heap.size + 1) (.loop (rec (if jump.isNone then .ready else .done) jump))).heap[w.heap.size]? = some (.deferred (some [])) := fun jump W3 hk3 => by
        have hl3 := (hk3 (w.heap.size + 1) (.inr rfl)).trans hl2
        have := run_endRound (P := P) jump hl3
        rw [hrec] at this ⊢
        exact ⟨this, World.putObj_heap_same (Array.getElem?_eq_some_iff.1 hl3).1, (World.putObj_heap_other (by omega)).trans ((hk3 _ (.inl rfl)).trans hk2)⟩
      rintro e a3 W3 hp
      cases e with
      | normal =>
        obtain ⟨S', hi3, hk3, hs3⟩ := hp
        have hz2 := hS _ _ _ hi2
        obtain ⟨hr', hl4, hk4⟩ := fin none W3 (fun k hk => hk3.block k (by omega) fun h => by have := hz2 k h; omega)
        have kp4 : Kept (fun k => k = w.heap.size + 1) W3 (W3.putObj (w.heap.size + 1) (.loop (rec (if (none : Option Code).isNone then .ready else .done) none))) := putObj_kept _ _ _
        refine ⟨_, _, hr', .inl ⟨rfl, _, ⟨⟨S', rfl, hI _ _ _ _ hi3 (kp4.mono fun _ _ h => .inr (.inr h)), ?_⟩, hl4, hk4⟩, ?_, fun k hk => ?_⟩⟩
        · have := hk3.size; have := kp4.size; omega
        · exact ((kp2.mono fun _ _ h => .inr h).trans' (hk3.mono fun _ _ h => .inl h)).trans' (kp4.mono fun _ _ h => .inr h)
        · rcases hk with hk | hk
          · rcases hs3 k hk with h | h
            · exact .inl (.inl h)
            · exact .inr (by omega)
          · exact .inl (.inr hk)
      | ret =>
        obtain ⟨hr', hl4, hk4⟩ := fin (some .ret) W3 hp.1
        exact ⟨_, _, hr', .inr ⟨rfl, .ret, hIx _ _ _ _ hp.2 ((putObj_kept _ _ _).mono fun _ _ h => .inr (.inr h)), hl4, hk4⟩⟩
      | exit id =>
        obtain ⟨hr', hl4, hk4⟩ := fin (some (.exit id)) W3 hp.1
        exact ⟨_, _, hr', .inr ⟨rfl, .exit id, hIx _ _ _ _ hp.2 ((putObj_kept _ _ _).mono fun _ _ h => .inr (.inr h)), hl4, hk4⟩⟩
      | goto t =>
        obtain ⟨hr', hl4, hk4⟩ := fin (some (.goto t)) W3 hp.1
        exact ⟨_, _, hr', .inr ⟨rfl, .goto t, hIx _ _ _ _ hp.2 ((putObj_kept _ _ _).mono fun _ _ h => .inr (.inr h)), hl4, hk4⟩⟩
      | panic ch => exact hp.elim
      | outgrown => exact hp.elim
    · -- behind the iterator
      rintro e W2 ⟨⟨v, rfl⟩, (⟨ys, S, hys, ⟨S1, rfl, hi, _⟩, hl, hk⟩ | ⟨pre, hpre, c, hi, hl, hk⟩)⟩
      · exact ⟨none, _, by have := run_endLoop (P := P) hl (by rw [hrec]; simp); rw [hrec] at this; exact this, hdone ys _ _ hys (hI _ _ _ _ hi ((putObj_kept _ _ _).mono fun _ _ h => .inr (.inr h))) ((World.putObj_heap_other (by omega)).trans hk)⟩
      · exact ⟨some c, _, by have := run_endLoop (P := P) hl (by rw [hrec]; simp); rw [hrec] at this; exact this, wpIn_wide.2 (hstop c pre _ hpre (hIx _ _ _ _ hi ((putObj_kept _ _ _).mono fun _ _ h => .inr (.inr h))) ((World.putObj_heap_other (by omega)).trans hk))⟩
end Go.Proofs.YtefpigakhhfcaaaDoor
end

/-! The records from an offset on, pure; a copy of segments; From. -/
section
set_option linter.unusedVariables false
set_option linter.unusedSimpArgs false
namespace Go.Proofs.YtefpigakhhfcaaaDoor
open Go.RowKit

/-- Of records that begin at f those from off on, each with its offset. -/
def recsL (off f : Nat) (l : List (List UInt8)) : List (List UInt8 × Nat) := (l.zipIdx f).filter fun x => decide (off ≤ x.2)
theorem recsL_app (off f : Nat) (a b : List (List UInt8)) : recsL off f (a ++ b) = recsL off f a ++ recsL off (f + a.length) b := by
  unfold recsL; rw [List.zipIdx_append, List.filter_append]
theorem recsL_one (off f : Nat) (b : List UInt8) : recsL off f [b] = if off ≤ f then [(b, f)] else [] := by
  unfold recsL
  by_cases h : off ≤ f
  · simp [h]
  · simp [h]
theorem recsL_len (off : Nat) : ∀ (f : Nat) (l : List (List UInt8)), (recsL off f l).length = l.length - (off - f)
  | f, [] => by simp [recsL]
  | f, b :: l => by
    rw [show b :: l = [b] ++ l from rfl, recsL_app, recsL_one, List.length_append, recsL_len off]
    by_cases h : off ≤ f
    · rw [if_pos h]; simp; omega
    · rw [if_neg h]; simp; omega
theorem recsL_get (off : Nat) : ∀ (f : Nat) (l : List (List UInt8)) (i : Nat), (recsL off f l)[i]? = (l[i + (off - f)]?).map fun b => (b, f + (i + (off - f)))
  | f, [], i => by simp [recsL]
  | f, b :: l, i => by
    rw [show b :: l = [b] ++ l from rfl, recsL_app, recsL_one]
    by_cases h : off ≤ f
    · rw [if_pos h]
      have e : off - f = 0 := by omega
      rw [e]
      cases i with
      | zero => simp
      | succ i =>
        have e2 : off - (f + 1) = 0 := by omega
        simp only [List.singleton_append, List.getElem?_cons_succ, List.length_singleton, Nat.add_zero]
        rw [recsL_get off (f + 1) l i, e2]
        simp only [Nat.add_zero]
        congr 1
        funext x
        rw [show f + 1 + i = f + (i + 1) by omega]
    · rw [if_neg h]
      simp only [List.nil_append, List.length_singleton, List.singleton_append]
      rw [recsL_get off (f + 1) l i]
      obtain ⟨d, hd⟩ : ∃ d, off - f = d + 1 := ⟨off - f - 1, by omega⟩
      have e2 : off - (f + 1) = d := by omega
      rw [hd, e2, show i + (d + 1) = (i + d) + 1 by omega, List.getElem?_cons_succ]
      congr 1
      funext x
      rw [show f + 1 + (i + d) = f + (i + d + 1) by omega]
/-- The same of a log's segments. -/
def recsFr (off : Nat) (ps : List Prt) : List (List UInt8 × Nat) := ps.flatMap fun p => recsL off p.1 p.2
theorem recsFr_app (off : Nat) (a b : List Prt) : recsFr off (a ++ b) = recsFr off a ++ recsFr off b := by simp [recsFr]
theorem recsFr_cont (off : Nat) : ∀ {ps : List Prt}, Cont ps → recsFr off ps = recsL off (fstP ps) (allR ps)
  | [], _ => by simp [recsFr, recsL, allR]
  | [p], _ => by simp [recsFr, allR, fstP]
  | p :: q :: r, h => by
    have h2 := recsFr_cont off (Cont.tail h)
    have h3 : fstP (q :: r) = p.1 + p.2.length := by
      have h4 := nxtP_eq h
      have h5 := nxtP_eq (Cont.tail h)
      rw [nxtP_cons, if_neg (by simp)] at h4
      have e : (allR (p :: q :: r)).length = p.2.length + (allR (q :: r)).length := by simp [allR]
      have e2 : fstP (p :: q :: r) = p.1 := rfl
      omega
    have e : allR (p :: q :: r) = p.2 ++ allR (q :: r) := by simp [allR]
    have e2 : fstP (p :: q :: r) = p.1 := rfl
    have e3 : recsFr off (p :: q :: r) = recsL off p.1 p.2 ++ recsFr off (q :: r) := by simp [recsFr]
    rw [e, e2, e3, recsL_app, h2, h3]

/-! ### A copy of segments -/
theorem Cs.of_row {w : World} {base e size n : Nat} {v : Value} {xs : List Value} (h : w.ownsRow base e size v n xs) : ∃ A c, v = .slice A n c ∧ Cs w A xs ∧ (A = none → c = 0) ∧ n ≤ c ∧ c ≤ 9223372036854775807 ∧ ∀ ad, A = some ad → v.ownBlock = some ad.block := by
  rcases h.2 with ⟨hv, h0⟩ | ⟨g, cap, cur, hv, hb, hh, h1, h2, -⟩
  · subst h0
    have hx : xs = [] := List.eq_nil_of_length_eq_zero (by simpa using h.1)
    exact ⟨none, 0, hv, ⟨fun _ => hx, fun ad e => (by cases e)⟩, fun _ => rfl, Nat.le_refl _, (by omega), fun ad e => (by cases e)⟩
  · refine ⟨some ⟨g, 0, none⟩, cap, hv, ⟨fun e => (by cases e), fun ad e j u hu => ?_⟩, fun e => (by cases e), h1, h2, fun ad e => by injection e with e; subst e; rw [hv]; rfl⟩
    injection e with e
    subst e
    exact h.cells (g := g) (by rw [hv]; rfl) j u hu
theorem build0Pt (w : World) : (Instr.buildSlice 59 0 #[]).run Tryd.prog w = .ok (.slice (some ⟨w.heap.size, 0, none⟩) 0 0) (w.alloc (.cells #[] 71)) := by kernel_rfl
set_option maxRecDepth 100000 in
set_option maxHeartbeats 4000000 in
theorem cloneParts_any (w : World) (A : Option Addr) (n c : Nat) (ms : List PM) (hn : n = ms.length) (hl : n ≤ 900000) (h : Cs w A (cellsM ms)) (hA : A = none → c = 0) :
    Calls Tryd.prog 36 #[.slice A n c] w fun e w' => ∃ v, e = .returned v ∧ w'.ownsRow w.heap.size 71 3 v ms.length (cellsM ms) ∧ Kept (fun _ => False) w w' := by
  cases A with
  | none =>
    have h0 := hA rfl
    have h1 : ms = [] := by
      have e := h.1 rfl
      cases ms with
      | nil => rfl
      | cons p ps => simp [cellsM, PM.cells] at e
    subst h0; subst h1
    subst hn
    clear h hA
    have hne : (binOp .eql 59 (.slice none 0 0) (.slice none 0 0)).run Tryd.prog w = .ok (.bool true) w := by kernel_rfl
    go_enter Tryd.func36, Tryd.ntmps36
    go_wp2
    go_ret
    exact ⟨_, rfl, World.ownsRow_nil _ _ _ _, Kept.refl _ _⟩
  | some a =>
    have hcs := Lib.hid h
    have Hn := Lib.hid hn
    have hown : (w.alloc (.cells #[] 71)).ownsRow w.heap.size 71 3 (.slice (some ⟨w.heap.size, 0, none⟩) 0 0) 0 [] :=
      ⟨by simp, .inr ⟨w.heap.size, 0, #[], rfl, Nat.le_refl _, heap_alloc_new w _, Nat.le_refl _, by simp, by simp, by simp⟩⟩
    have HO := Lib.hid hown
    have HK : Hid (Kept (fun _ => False) w (w.alloc (.cells #[] 71))) := Lib.hid ((Kept.refl _ w).alloc _)
    have hne : (binOp .eql 59 (.slice (some a) n c) (.slice none 0 0)).run Tryd.prog w = .ok (.bool false) w := by kernel_rfl
    clear h hA hown hn
    go_enter Tryd.func36, Tryd.ntmps36
    have hb := build0Pt w
    go_wp2_with (at_builtin; refine wpList_append_e elemPt rfl _ _ rfl w.heap.size _ 0 _ rfl HO.out (some a) n c (cellsM ms) rfl (hcs.out.kept HK.out (by simp)) (by rw [cellsM_len, Hn.out]) (cellsM_one ms) (fun e => by cases e) (by omega) HK.out.size ?_; intro v' w1 hown hgrow)
    go_ret
    simp only [Nat.zero_add, List.nil_append] at hown
    rw [Hn.out] at hown
    exact ⟨v', rfl, hown, HK.out.grown hgrow.row (fun k e hk => by
      have : w.heap.size = k := by simpa [Value.ownBlock, Act.eval] using e
      omega)⟩

/-! ### From -/
/-- What From hands back, and what it has captured. -/
def FromPost (w : World) (off : Nat) (ms : List PM) (e : Ending) (w' : World) : Prop :=
  ∃ v, e = .returned (.func (.func 37) #[] #[.pointer (some ⟨w.heap.size + 1, 0, none⟩), .pointer (some ⟨w.heap.size, 0, none⟩)]) ∧ Boxed w' w.heap.size 23 (.int .u64 (off : Nat)) ∧ Boxed w' (w.heap.size + 1) 59 v ∧
    w'.ownsRow w.heap.size 71 3 v ms.length (cellsM ms) ∧ Kept (fun _ => False) w w'
set_option maxRecDepth 100000 in
set_option maxHeartbeats 4000000 in
theorem slFrom_nil (w : World) (off : Nat) : Calls Tryd.prog 11 #[.pointer none, .int .u64 (off : Nat)] w (FromPost w off []) := by
  have hb1 : Boxed ((w.alloc (.cells #[.int .u64 (off : Nat)] 23)).alloc (.cells #[.slice none 0 0] 59)) w.heap.size 23 (.int .u64 (off : Nat)) := (Boxed.new w 23 (.int .u64 (off : Nat))).alloc _
  have hb2 : Boxed ((w.alloc (.cells #[.int .u64 (off : Nat)] 23)).alloc (.cells #[.slice none 0 0] 59)) (w.heap.size + 1) 59 (.slice none 0 0) := by
    have := Boxed.new (w.alloc (.cells #[.int .u64 (off : Nat)] 23)) 59 (.slice none 0 0)
    simpa using this
  have hk : Kept (fun _ => False) w ((w.alloc (.cells #[.int .u64 (off : Nat)] 23)).alloc (.cells #[.slice none 0 0] 59)) := ((Kept.refl _ w).alloc _).alloc _
  have H1 := Lib.hid hb1
  have H2 := Lib.hid hb2
  have HK := Lib.hid hk
  clear hb1 hb2 hk
  go_enter Tryd.func11, Tryd.ntmps11
  go_wp2
  go_ret
  exact ⟨_, rfl, H1.out, H2.out, World.ownsRow_nil _ _ _ _, HK.out⟩
set_option maxRecDepth 100000 in
set_option maxHeartbeats 4000000 in
theorem slFrom_some (w : World) (T F off : Nat) (nm : ByteArray) (v : Value) (ms : List PM) (dead : Bool) (h : LB w T F nm v dead) (hr : RowM w v ms) (hl : ms.length ≤ 900000) : Calls Tryd.prog 11 #[.pointer (some ⟨T, 0, none⟩), .int .u64 (off : Nat)] w (FromPost w off ms) := by
  obtain ⟨A, c, rfl, hcs, hA, -, -, -⟩ := Cs.of_row hr
  obtain ⟨n, hn⟩ : ∃ n, n = ms.length := ⟨_, rfl⟩
  rw [← hn] at h
  obtain ⟨W1, hW1⟩ : ∃ W1, W1 = (w.alloc (.cells #[.int .u64 (off : Nat)] 23)).alloc (.cells #[.slice none 0 0] 59) := ⟨_, rfl⟩
  have hb1 : Boxed W1 w.heap.size 23 (.int .u64 (off : Nat)) := by rw [hW1]; exact (Boxed.new w 23 (.int .u64 (off : Nat))).alloc _
  have hb2 : Boxed W1 (w.heap.size + 1) 59 (.slice none 0 0) := by
    have := Boxed.new (w.alloc (.cells #[.int .u64 (off : Nat)] 23)) 59 (.slice none 0 0)
    rw [hW1]; simpa using this
  have hk : Kept (fun _ => False) w W1 := by rw [hW1]; exact ((Kept.refl _ w).alloc _).alloc _
  have c2 := (h.kept hk (by simp)).c2
  have H1 := Lib.hid hb1
  have H2 := Lib.hid hb2
  have HK := Lib.hid hk
  have HC : Hid (Calls Tryd.prog 36 #[.slice A n c] W1 fun e w' => ∃ v, e = .returned v ∧ w'.ownsRow W1.heap.size 71 3 v ms.length (cellsM ms) ∧ Kept (fun _ => False) W1 w') := Lib.hid (cloneParts_any W1 A n c ms hn (by omega) (hcs.kept hk (by simp)) hA)
  obtain ⟨B, hB⟩ : ∃ B, B = w.heap.size + 1 := ⟨_, rfl⟩
  rw [← hB] at H2
  clear hb1 hb2 hk h hr hcs hA hn
  go_enter Tryd.func11, Tryd.ntmps11
  go_upto_region 3 with fail
  rw [← hW1, ← hB]
  clear hW1
  have HBd := Lib.hid hB
  clear hB
  go_upto_region 4 with (go_at_call 36; refine HC.out.mono ?_; rintro e w2 ⟨v2, rfl, ho2, hk2⟩; obtain ⟨A2, c2', rfl⟩ := own_slice ho2; have HO2 := Lib.hid ho2; have HK2 := Lib.hid hk2; have hb3 := hk2.heap H2.out (by simp); have g1 := Boxed.cell (v := .slice none 0 0) hb3; have gf1 := Boxed.frozen (v := .slice none 0 0) hb3; have HB3 := Lib.hid hb3; clear ho2 hk2 hb3)
  go_wp2
  go_ret
  have hkB : Kept (fun k => k = B) w2 (w2.setCell ⟨B, 0, none⟩ (.slice A2 ms.length c2')) := (Kept.refl (fun k => k = B) w2).setCell (fun _ => rfl) _
  have hBd := HBd.out
  have h1s := HK.out.size
  refine ⟨.slice A2 ms.length c2', by rw [← hBd]; rfl, ?_, ?_, ?_, ?_⟩
  · exact hkB.heap (HK2.out.heap H1.out (by simp)) (by omega)
  · rw [← hBd]; exact (show Boxed w2 B 59 (.slice none 0 0) from HB3.out).set _
  · refine own_kept (own_low HO2.out h1s) hkB fun k e e2 => ?_
    have := own_ge HO2.out k e
    have hl2 := (Array.getElem?_eq_some_iff.1 (show W1.heap[B]? = _ from H2.out)).1
    omega
  · exact (HK.out.trans' HK2.out).trans hkB fun i hi e => by omega
end Go.Proofs.YtefpigakhhfcaaaDoor
end
