import Derived.Test.YtibalgfejfjndaaGreatDoorMal
import Derived.OrdersHeld
/-! A range over a function whose rounds are handed something new each time (a copy, say), and whose iterator makes blocks of its own between the rounds. -/
section
set_option linter.unusedVariables false
set_option linter.unusedSimpArgs false
namespace Go.Proofs.YtibalgfejfjndaaGreatDoor
open Go.RowKit

/-- The iterator gf tells xs, in order, each with something of which ok holds; or a part, a round having said 'no more'. S: what a round may turn. -/
def IterF {α β : Type} (P : Program) (gf : Nat) (lb : Array Value) (encs : α → β → Array Value) (ok : α → β → World → Prop) (own rd : Nat → Prop) (xs : List α) (w : World) : Prop :=
  ∀ (l : Nat) (J : List (α × β) → (Nat → Prop) → World → Prop) (Jx : List (α × β) → World → Prop) (S0 : Nat → Prop) (W : World), Kept (fun _ => False) w W →
    (∀ pre S A B, J pre S A → Kept own A B → J pre S B) → (∀ pre A B, Jx pre A → Kept own A B → Jx pre B) →
    (∀ pre S A, J pre S A → ∀ k, S k → k < A.heap.size ∧ ¬ rd k) →
    (∀ pre S x v post W1, xs = pre.map Prod.fst ++ x :: post → J pre S W1 → ok x v W1 → YieldAt Fence.wide 7 P l (encs x v) W1 fun e W' =>
      (e = .returned (.bool true) ∧ ∃ S', J (pre ++ [(x, v)]) S' W' ∧ Kept S W1 W' ∧ ∀ k, S' k → S k ∨ W1.heap.size ≤ k) ∨ (e = .returned (.bool false) ∧ Jx (pre ++ [(x, v)]) W')) →
    J [] S0 W →
    CallsIn Fence.wide 8 P gf (#[.func (.yield l) #[] #[]] ++ lb) W fun e W' => (∃ v, e = .returned v) ∧ ((∃ ys S, ys.map Prod.fst = xs ∧ J ys S W') ∨ ∃ pre, pre.map Prod.fst <+: xs ∧ Jx pre W')

/-- How a round may be left. -/
def roundPostF {γ : Type} (D : Nat) (S : Nat → Prop) (I : List γ → (Nat → Prop) → World → Prop) (Ix : Code → List γ → World → Prop) (xs : List γ) (W : World) : Exit → Act → World → Prop
  | .normal, _, W' => ∃ S', I xs S' W' ∧ Kept S W W' ∧ ∀ k, S' k → S k ∨ W.heap.size ≤ k
  | .ret, _, W' => (∀ k, (k = D ∨ k = D + 1) → W'.heap[k]? = W.heap[k]?) ∧ Ix .ret xs W'
  | .exit id, _, W' => (∀ k, (k = D ∨ k = D + 1) → W'.heap[k]? = W.heap[k]?) ∧ Ix (.exit id) xs W'
  | .goto t, _, W' => (∀ k, (k = D ∨ k = D + 1) → W'.heap[k]? = W.heap[k]?) ∧ Ix (.goto t) xs W'
  | .panic _, _, _ => False
  | .outgrown, _, _ => False

/-- The law. D: the block of the rounds' deferred calls; D + 1: the loop's record. -/
theorem wp_rangeF {α β : Type} {P : Program} {g : Operand} {ps : Array Tmp} {assign body : Code} {Q : Exit → Act → World → Prop} {a : Act} {w : World}
    {gf : Nat} {lb : Array Value} (hg : a.eval g = .func (.func gf) #[] lb) (eg : ∀ args w, (callFunc gf args).run P w = .ok (.enter gf args) w)
    {encs : α → β → Array Value} {ok : α → β → World → Prop} {own rd : Nat → Prop} {xs : List α} (hit : IterF P gf lb encs ok own rd xs w) (hps : ∀ x v, (encs x v).size = ps.size)
    (ho : ∀ k, own k → k < w.heap.size) (hr : ∀ k, rd k → k < w.heap.size)
    (I : List (α × β) → (Nat → Prop) → World → Prop) (Ix : Code → List (α × β) → World → Prop) (S0 : Nat → Prop)
    (hI : ∀ pre S A B, I pre S A → Kept (fun k => own k ∨ k = w.heap.size ∨ k = w.heap.size + 1) A B → I pre S B)
    (hIx : ∀ c pre A B, Ix c pre A → Kept (fun k => own k ∨ k = w.heap.size ∨ k = w.heap.size + 1) A B → Ix c pre B)
    (hS : ∀ pre S A, I pre S A → ∀ k, S k → k < A.heap.size ∧ ¬ rd k ∧ k ≠ w.heap.size ∧ k ≠ w.heap.size + 1)
    (h0 : I [] S0 w) (a₁ : α → β → Act)
    (hassign : ∀ (l : Nat) (x : α) (v : β) (W : World) (K : Act → World → Prop), K (a₁ x v) W →
      assign.wpIn (Fence.wide.inRound l) 7 P (Exit.then K (fun _ _ _ => False)) { tmps := (ps.zip (encs x v)).foldl (fun t (p, v) => t.setIfInBounds p v) a.tmps, defers := [] } W)
    (hbody : ∀ (l : Nat) (pre : List (α × β)) (S : Nat → Prop) (x : α) (v : β) (post : List α) (W0 W : World), xs = pre.map Prod.fst ++ x :: post → I pre S W → ok x v W0 → Kept (fun k => k = w.heap.size + 1) W0 W → (∃ r, W0.heap[w.heap.size + 1]? = some (.loop r)) → W0.heap[w.heap.size]? = some (.deferred (some [])) → w.heap.size + 2 ≤ W.heap.size →
      body.wpIn (Fence.wide.inRound l) 7 P (roundPostF w.heap.size S I Ix (pre ++ [(x, v)]) W) (a₁ x v) W)
    (hdone : ∀ (ys : List (α × β)) (S : Nat → Prop) (W : World), ys.map Prod.fst = xs → I ys S W → W.heap[w.heap.size]? = some (.deferred (some [])) → Q .normal { a with defers := { target := .collected w.heap.size, args := #[] } :: a.defers } W)
    (hstop : ∀ (c : Code) (pre : List (α × β)) (W : World), pre.map Prod.fst <+: xs → Ix c pre W → W.heap[w.heap.size]? = some (.deferred (some [])) → c.wp P Q { a with defers := { target := .collected w.heap.size, args := #[] } :: a.defers } W) :
    (Code.rangeFunc g ps assign body).wp P Q a w := by
  refine (wpIn_wide (n := 9)).1 (wpIn_rangeFunc ?_)
  intro fn hfn
  obtain ⟨rec, hrec⟩ : ∃ rec : LoopState → Option Code → Loop, rec = fun st pe => { state := st, pending := pe, fn, tmps := a.tmps, params := ps, assign, body, defers := w.heap.size } := ⟨_, rfl⟩
  obtain ⟨W1, hW1⟩ : ∃ W1, (w.alloc (.deferred (some []))).alloc (.loop (rec .ready none)) = W1 := ⟨_, rfl⟩
  have hL1 : W1.heap[w.heap.size + 1]? = some (.loop (rec .ready none)) := by
    rw [← hW1]; have := World.alloc_heap_new (w.alloc (.deferred (some []))) (.loop (rec .ready none)); rwa [World.size_alloc] at this
  have hK1 : W1.heap[w.heap.size]? = some (.deferred (some [])) := by
    rw [← hW1]; exact (Below.heap_alloc _ _ _ (by simp)).trans (World.alloc_heap_new w _)
  have hk1 : Kept (fun _ => False) w W1 := by rw [← hW1]; exact ((Kept.refl _ w).alloc _).alloc _
  have hI1 : I [] S0 W1 := hI _ _ _ _ h0 (hk1.mono fun _ _ h => h.elim)
  have no : ∀ k, own k → k ≠ w.heap.size ∧ k ≠ w.heap.size + 1 := fun k h => ⟨by have := ho k h; omega, by have := ho k h; omega⟩
  refine ⟨w.heap.size + 1, [{ target := .collected w.heap.size, args := #[] }], W1, { target := .fn (.func gf) lb, args := #[.func (.yield (w.heap.size + 1)) #[] #[]] }, W1, gf,
    #[.func (.yield (w.heap.size + 1)) #[] #[]] ++ lb, W1, ?_, ?_, fun _ _ => trivial, ?_, fun _ => by omega, ?_⟩
  · rw [← hW1, hrec]; exact run_enterLoop_outer _ _ _ _ _
  · simp only [resolve, hg]
    simp [go_sem]
  · simp [invoke, go_sem, eg]
  · refine (hit (w.heap.size + 1)
      (fun pre S W => (∃ S1, S = (fun k => S1 k ∨ k = w.heap.size + 1) ∧ I pre S1 W ∧ W1.heap.size ≤ W.heap.size) ∧ W.heap[w.heap.size + 1]? = some (.loop (rec .ready none)) ∧ W.heap[w.heap.size]? = some (.deferred (some [])))
      (fun pre W => ∃ c, Ix c pre W ∧ W.heap[w.heap.size + 1]? = some (.loop (rec .done (some c))) ∧ W.heap[w.heap.size]? = some (.deferred (some [])))
      _ W1 hk1
      (fun pre S A B hs hk => by
        obtain ⟨⟨S1, e, hi, hz⟩, hl, hd⟩ := hs
        exact ⟨⟨S1, e, hI _ _ _ _ hi (hk.mono fun _ _ h => .inl h), Nat.le_trans hz hk.size⟩, hk.heap hl (fun h => (no _ h).2 rfl), hk.heap hd (fun h => (no _ h).1 rfl)⟩)
      (fun pre A B hs hk => by
        obtain ⟨c, hc, hl, hd⟩ := hs
        exact ⟨c, hIx _ _ _ _ hc (hk.mono fun _ _ h => .inl h), hk.heap hl (fun h => (no _ h).2 rfl), hk.heap hd (fun h => (no _ h).1 rfl)⟩)
      (fun pre S A hs k hk => by
        obtain ⟨⟨S1, rfl, hi, hz⟩, hl, hd⟩ := hs
        rcases hk with hk | hk
        · exact ⟨(hS _ _ _ hi k hk).1, (hS _ _ _ hi k hk).2.1⟩
        · subst hk
          exact ⟨(Array.getElem?_eq_some_iff.1 hl).1, fun h => by have := hr _ h; omega⟩)
      ?_ ⟨⟨S0, rfl, hI1, Nat.le_refl _⟩, hL1, hK1⟩).mono ?_
    · -- one round
      rintro pre S x v post W hxs ⟨⟨S1, rfl, hi, hsz⟩, hl, hk⟩ hov
      have hlt : w.heap.size + 1 < W.heap.size := (Array.getElem?_eq_some_iff.1 hl).1
      have hy := run_yield (P := P) (args := encs x v) hl (by rw [hrec]; exact hps x v)
      rw [hrec] at hy
      refine ⟨fn, _, assign, body, hy, roundIn_of_wpIn trivial (hassign _ x v W _ ⟨_, run_beginRound hl (by rw [hrec]), ?_⟩)⟩
      obtain ⟨W2, hW2⟩ : ∃ W2, W2 = W.putObj (w.heap.size + 1) (.loop { rec .ready none with state := .busy }) := ⟨_, rfl⟩
      rw [← hW2]
      have kp2 : Kept (fun k => k = w.heap.size + 1) W W2 := by rw [hW2]; exact putObj_kept _ _ _
      have hl2 : W2.heap[w.heap.size + 1]? = some (.loop { rec .ready none with state := .busy }) := by rw [hW2]; exact World.putObj_heap_same hlt
      have hk2 : W2.heap[w.heap.size]? = some (.deferred (some [])) := kp2.heap hk (by omega)
      have hs2 : W2.heap.size = W.heap.size := by rw [hW2]; simp [World.putObj]
      have hi2 : I pre S1 W2 := hI _ _ _ _ hi (kp2.mono fun _ _ h => .inr (.inr h))
      refine wpIn_mono (hbody _ pre S1 x v post W W2 hxs hi2 hov kp2 ⟨_, hl⟩ hk (by omega)) ?_
      have fin : ∀ (jump : Option Code) (W3 : World), (∀ k, (k = w.heap.size ∨ k = w.heap.size + 1) → W3.heap[k]? = W2.heap[k]?) →
          (Instr.endRound (w.heap.size + 1) jump).run P W3 = .ok (.bool jump.isNone) (W3.putObj (w.heap.size + 1) (.loop (rec (if jump.isNone then .ready else .done) jump))) ∧
          (W3.putObj (w.heap.size + 1) (.loop (rec (if jump.isNone then .ready else .done) jump))).heap[w.heap.size + 1]? = some (.loop (rec (if jump.isNone then .ready else .done) jump)) ∧
          (W3.putObj (w.heap.size + 1) (.loop (rec (if jump.isNone then .ready else .done) jump))).heap[w.heap.size]? = some (.deferred (some [])) := fun jump W3 hk3 => by
        have hl3 := (hk3 (w.heap.size + 1) (.inr rfl)).trans hl2
        have := run_endRound (P := P) jump hl3
        rw [hrec] at this ⊢
        exact ⟨this, World.putObj_heap_same (Array.getElem?_eq_some_iff.1 hl3).1, (World.putObj_heap_other (by omega)).trans ((hk3 _ (.inl rfl)).trans hk2)⟩
      rintro e a3 W3 hp
      cases e with
      | normal =>
        obtain ⟨S', hi3, hk3, hs3⟩ := hp
        have hz2 := hS _ _ _ hi2
        obtain ⟨hr', hl4, hk4⟩ := fin none W3 (fun k hk => hk3.block k (by omega) fun h => by have := hz2 k h; omega)
        have kp4 : Kept (fun k => k = w.heap.size + 1) W3 (W3.putObj (w.heap.size + 1) (.loop (rec (if (none : Option Code).isNone then .ready else .done) none))) := putObj_kept _ _ _
        refine ⟨_, _, hr', .inl ⟨rfl, _, ⟨⟨S', rfl, hI _ _ _ _ hi3 (kp4.mono fun _ _ h => .inr (.inr h)), ?_⟩, hl4, hk4⟩, ?_, fun k hk => ?_⟩⟩
        · have := hk3.size; have := kp4.size; omega
        · exact ((kp2.mono fun _ _ h => .inr h).trans' (hk3.mono fun _ _ h => .inl h)).trans' (kp4.mono fun _ _ h => .inr h)
        · rcases hk with hk | hk
          · rcases hs3 k hk with h | h
            · exact .inl (.inl h)
            · exact .inr (by omega)
          · exact .inl (.inr hk)
      | ret =>
        obtain ⟨hr', hl4, hk4⟩ := fin (some .ret) W3 hp.1
        exact ⟨_, _, hr', .inr ⟨rfl, .ret, hIx _ _ _ _ hp.2 ((putObj_kept _ _ _).mono fun _ _ h => .inr (.inr h)), hl4, hk4⟩⟩
      | exit id =>
        obtain ⟨hr', hl4, hk4⟩ := fin (some (.exit id)) W3 hp.1
        exact ⟨_, _, hr', .inr ⟨rfl, .exit id, hIx _ _ _ _ hp.2 ((putObj_kept _ _ _).mono fun _ _ h => .inr (.inr h)), hl4, hk4⟩⟩
      | goto t =>
        obtain ⟨hr', hl4, hk4⟩ := fin (some (.goto t)) W3 hp.1
        exact ⟨_, _, hr', .inr ⟨rfl, .goto t, hIx _ _ _ _ hp.2 ((putObj_kept _ _ _).mono fun _ _ h => .inr (.inr h)), hl4, hk4⟩⟩
      | panic ch => exact hp.elim
      | outgrown => exact hp.elim
    · -- behind the iterator
      rintro e W2 ⟨⟨v, rfl⟩, (⟨ys, S, hys, ⟨S1, rfl, hi, _⟩, hl, hk⟩ | ⟨pre, hpre, c, hi, hl, hk⟩)⟩
      · exact ⟨none, _, by have := run_endLoop (P := P) hl (by rw [hrec]; simp); rw [hrec] at this; exact this, hdone ys _ _ hys (hI _ _ _ _ hi ((putObj_kept _ _ _).mono fun _ _ h => .inr (.inr h))) ((World.putObj_heap_other (by omega)).trans hk)⟩
      · exact ⟨some c, _, by have := run_endLoop (P := P) hl (by rw [hrec]; simp); rw [hrec] at this; exact this, wpIn_wide.2 (hstop c pre _ hpre (hIx _ _ _ _ hi ((putObj_kept _ _ _).mono fun _ _ h => .inr (.inr h))) ((World.putObj_heap_other (by omega)).trans hk))⟩
end Go.Proofs.YtibalgfejfjndaaGreatDoor
end

/-! The records from an offset on, pure; a copy of segments; From. -/
section
set_option linter.unusedVariables false
set_option linter.unusedSimpArgs false
namespace Go.Proofs.YtibalgfejfjndaaGreatDoor
open Go.RowKit

/-- Of records that begin at f those from off on, each with its offset. -/
def recsL (off f : Nat) (l : List (List UInt8)) : List (List UInt8 × Nat) := (l.zipIdx f).filter fun x => decide (off ≤ x.2)
theorem recsL_app (off f : Nat) (a b : List (List UInt8)) : recsL off f (a ++ b) = recsL off f a ++ recsL off (f + a.length) b := by
  unfold recsL; rw [List.zipIdx_append, List.filter_append]
theorem recsL_one (off f : Nat) (b : List UInt8) : recsL off f [b] = if off ≤ f then [(b, f)] else [] := by
  unfold recsL
  by_cases h : off ≤ f
  · simp [h]
  · simp [h]
theorem recsL_len (off : Nat) : ∀ (f : Nat) (l : List (List UInt8)), (recsL off f l).length = l.length - (off - f)
  | f, [] => by simp [recsL]
  | f, b :: l => by
    rw [show b :: l = [b] ++ l from rfl, recsL_app, recsL_one, List.length_append, recsL_len off]
    by_cases h : off ≤ f
    · rw [if_pos h]; simp; omega
    · rw [if_neg h]; simp; omega
theorem recsL_get (off : Nat) : ∀ (f : Nat) (l : List (List UInt8)) (i : Nat), (recsL off f l)[i]? = (l[i + (off - f)]?).map fun b => (b, f + (i + (off - f)))
  | f, [], i => by simp [recsL]
  | f, b :: l, i => by
    rw [show b :: l = [b] ++ l from rfl, recsL_app, recsL_one]
    by_cases h : off ≤ f
    · rw [if_pos h]
      have e : off - f = 0 := by omega
      rw [e]
      cases i with
      | zero => simp
      | succ i =>
        have e2 : off - (f + 1) = 0 := by omega
        simp only [List.singleton_append, List.getElem?_cons_succ, List.length_singleton, Nat.add_zero]
        rw [recsL_get off (f + 1) l i, e2]
        simp only [Nat.add_zero]
        congr 1
        funext x
        rw [show f + 1 + i = f + (i + 1) by omega]
    · rw [if_neg h]
      simp only [List.nil_append, List.length_singleton, List.singleton_append]
      rw [recsL_get off (f + 1) l i]
      obtain ⟨d, hd⟩ : ∃ d, off - f = d + 1 := ⟨off - f - 1, by omega⟩
      have e2 : off - (f + 1) = d := by omega
      rw [hd, e2, show i + (d + 1) = (i + d) + 1 by omega, List.getElem?_cons_succ]
      congr 1
      funext x
      rw [show f + 1 + (i + d) = f + (i + d + 1) by omega]
/-- The same of a log's segments. -/
def recsFr (off : Nat) (ps : List Prt) : List (List UInt8 × Nat) := ps.flatMap fun p => recsL off p.1 p.2
theorem recsFr_app (off : Nat) (a b : List Prt) : recsFr off (a ++ b) = recsFr off a ++ recsFr off b := by simp [recsFr]
theorem recsFr_cont (off : Nat) : ∀ {ps : List Prt}, Cont ps → recsFr off ps = recsL off (fstP ps) (allR ps)
  | [], _ => by simp [recsFr, recsL, allR]
  | [p], _ => by simp [recsFr, allR, fstP]
  | p :: q :: r, h => by
    have h2 := recsFr_cont off (Cont.tail h)
    have h3 : fstP (q :: r) = p.1 + p.2.length := by
      have h4 := nxtP_eq h
      have h5 := nxtP_eq (Cont.tail h)
      rw [nxtP_cons, if_neg (by simp)] at h4
      have e : (allR (p :: q :: r)).length = p.2.length + (allR (q :: r)).length := by simp [allR]
      have e2 : fstP (p :: q :: r) = p.1 := rfl
      omega
    have e : allR (p :: q :: r) = p.2 ++ allR (q :: r) := by simp [allR]
    have e2 : fstP (p :: q :: r) = p.1 := rfl
    have e3 : recsFr off (p :: q :: r) = recsL off p.1 p.2 ++ recsFr off (q :: r) := by simp [recsFr]
    rw [e, e2, e3, recsL_app, h2, h3]

/-! ### A copy of segments -/
theorem Cs.of_row {w : World} {base e size n : Nat} {v : Value} {xs : List Value} (h : w.ownsRow base e size v n xs) : ∃ A c, v = .slice A n c ∧ Cs w A xs ∧ (A = none → c = 0) ∧ n ≤ c ∧ c ≤ 9223372036854775807 ∧ ∀ ad, A = some ad → v.ownBlock = some ad.block := by
  rcases h.2 with ⟨hv, h0⟩ | ⟨g, cap, cur, hv, hb, hh, h1, h2, -⟩
  · subst h0
    have hx : xs = [] := List.eq_nil_of_length_eq_zero (by simpa using h.1)
    exact ⟨none, 0, hv, ⟨fun _ => hx, fun ad e => (by cases e)⟩, fun _ => rfl, Nat.le_refl _, (by omega), fun ad e => (by cases e)⟩
  · refine ⟨some ⟨g, 0, none⟩, cap, hv, ⟨fun e => (by cases e), fun ad e j u hu => ?_⟩, fun e => (by cases e), h1, h2, fun ad e => by injection e with e; subst e; rw [hv]; rfl⟩
    injection e with e
    subst e
    exact h.cells (g := g) (by rw [hv]; rfl) j u hu
theorem build0Pt (w : World) : (Instr.buildSlice 48 0 #[]).run Tryz.prog w = .ok (.slice (some ⟨w.heap.size, 0, none⟩) 0 0) (w.alloc (.cells #[] 61)) := by kernel_rfl
set_option maxRecDepth 100000 in
set_option maxHeartbeats 4000000 in
theorem cloneParts_any (w : World) (A : Option Addr) (n c : Nat) (ms : List PM) (hn : n = ms.length) (hl : n ≤ 900000) (h : Cs w A (cellsM ms)) (hA : A = none → c = 0) :
    Calls Tryz.prog 52 #[.slice A n c] w fun e w' => ∃ v, e = .returned v ∧ w'.ownsRow w.heap.size 61 3 v ms.length (cellsM ms) ∧ Kept (fun _ => False) w w' := by
  cases A with
  | none =>
    have h0 := hA rfl
    have h1 : ms = [] := by
      have e := h.1 rfl
      cases ms with
      | nil => rfl
      | cons p ps => simp [cellsM, PM.cells] at e
    subst h0; subst h1
    subst hn
    clear h hA
    have hne : (binOp .eql 48 (.slice none 0 0) (.slice none 0 0)).run Tryz.prog w = .ok (.bool true) w := by kernel_rfl
    go_enter Tryz.func52, Tryz.ntmps52
    go_wp2
    go_ret
    exact ⟨_, rfl, World.ownsRow_nil _ _ _ _, Kept.refl _ _⟩
  | some a =>
    have hcs := Lib.hid h
    have Hn := Lib.hid hn
    have hown : (w.alloc (.cells #[] 61)).ownsRow w.heap.size 61 3 (.slice (some ⟨w.heap.size, 0, none⟩) 0 0) 0 [] :=
      ⟨by simp, .inr ⟨w.heap.size, 0, #[], rfl, Nat.le_refl _, heap_alloc_new w _, Nat.le_refl _, by simp, by simp, by simp⟩⟩
    have HO := Lib.hid hown
    have HK : Hid (Kept (fun _ => False) w (w.alloc (.cells #[] 61))) := Lib.hid ((Kept.refl _ w).alloc _)
    have hne : (binOp .eql 48 (.slice (some a) n c) (.slice none 0 0)).run Tryz.prog w = .ok (.bool false) w := by kernel_rfl
    clear h hA hown hn
    go_enter Tryz.func52, Tryz.ntmps52
    have hb := build0Pt w
    go_wp2_with (at_builtin; refine wpList_append_e elemPt rfl _ _ rfl w.heap.size _ 0 _ rfl HO.out (some a) n c (cellsM ms) rfl (hcs.out.kept HK.out (by simp)) (by rw [cellsM_len, Hn.out]) (cellsM_one ms) (fun e => by cases e) (by omega) HK.out.size ?_; intro v' w1 hown hgrow)
    go_ret
    simp only [Nat.zero_add, List.nil_append] at hown
    rw [Hn.out] at hown
    exact ⟨v', rfl, hown, HK.out.grown hgrow.row (fun k e hk => by
      have : w.heap.size = k := by simpa [Value.ownBlock, Act.eval] using e
      omega)⟩

/-! ### From -/
/-- What From hands back, and what it has captured. -/
def FromPost (w : World) (off : Nat) (ms : List PM) (e : Ending) (w' : World) : Prop :=
  ∃ v, e = .returned (.func (.func 72) #[] #[.pointer (some ⟨w.heap.size + 1, 0, none⟩), .pointer (some ⟨w.heap.size, 0, none⟩)]) ∧ Boxed w' w.heap.size 27 (.int .u64 (off : Nat)) ∧ Boxed w' (w.heap.size + 1) 48 v ∧
    w'.ownsRow w.heap.size 61 3 v ms.length (cellsM ms) ∧ Kept (fun _ => False) w w'
set_option maxRecDepth 100000 in
set_option maxHeartbeats 4000000 in
theorem slFrom_nil (w : World) (off : Nat) : Calls Tryz.prog 56 #[.pointer none, .int .u64 (off : Nat)] w (FromPost w off []) := by
  have hb1 : Boxed ((w.alloc (.cells #[.int .u64 (off : Nat)] 27)).alloc (.cells #[.slice none 0 0] 48)) w.heap.size 27 (.int .u64 (off : Nat)) := (Boxed.new w 27 (.int .u64 (off : Nat))).alloc _
  have hb2 : Boxed ((w.alloc (.cells #[.int .u64 (off : Nat)] 27)).alloc (.cells #[.slice none 0 0] 48)) (w.heap.size + 1) 48 (.slice none 0 0) := by
    have := Boxed.new (w.alloc (.cells #[.int .u64 (off : Nat)] 27)) 48 (.slice none 0 0)
    simpa using this
  have hk : Kept (fun _ => False) w ((w.alloc (.cells #[.int .u64 (off : Nat)] 27)).alloc (.cells #[.slice none 0 0] 48)) := ((Kept.refl _ w).alloc _).alloc _
  have H1 := Lib.hid hb1
  have H2 := Lib.hid hb2
  have HK := Lib.hid hk
  clear hb1 hb2 hk
  go_enter Tryz.func56, Tryz.ntmps56
  go_wp2
  go_ret
  exact ⟨_, rfl, H1.out, H2.out, World.ownsRow_nil _ _ _ _, HK.out⟩
set_option maxRecDepth 100000 in
set_option maxHeartbeats 4000000 in
theorem slFrom_some (w : World) (T F off : Nat) (nm : ByteArray) (v : Value) (ms : List PM) (dead : Bool) (h : LB w T F nm v dead) (hr : RowM w v ms) (hl : ms.length ≤ 900000) : Calls Tryz.prog 56 #[.pointer (some ⟨T, 0, none⟩), .int .u64 (off : Nat)] w (FromPost w off ms) := by
  obtain ⟨A, c, rfl, hcs, hA, -, -, -⟩ := Cs.of_row hr
  obtain ⟨n, hn⟩ : ∃ n, n = ms.length := ⟨_, rfl⟩
  rw [← hn] at h
  obtain ⟨W1, hW1⟩ : ∃ W1, W1 = (w.alloc (.cells #[.int .u64 (off : Nat)] 27)).alloc (.cells #[.slice none 0 0] 48) := ⟨_, rfl⟩
  have hb1 : Boxed W1 w.heap.size 27 (.int .u64 (off : Nat)) := by rw [hW1]; exact (Boxed.new w 27 (.int .u64 (off : Nat))).alloc _
  have hb2 : Boxed W1 (w.heap.size + 1) 48 (.slice none 0 0) := by
    have := Boxed.new (w.alloc (.cells #[.int .u64 (off : Nat)] 27)) 48 (.slice none 0 0)
    rw [hW1]; simpa using this
  have hk : Kept (fun _ => False) w W1 := by rw [hW1]; exact ((Kept.refl _ w).alloc _).alloc _
  have c2 := (h.kept hk (by simp)).c2
  have H1 := Lib.hid hb1
  have H2 := Lib.hid hb2
  have HK := Lib.hid hk
  have HC : Hid (Calls Tryz.prog 52 #[.slice A n c] W1 fun e w' => ∃ v, e = .returned v ∧ w'.ownsRow W1.heap.size 61 3 v ms.length (cellsM ms) ∧ Kept (fun _ => False) W1 w') := Lib.hid (cloneParts_any W1 A n c ms hn (by omega) (hcs.kept hk (by simp)) hA)
  obtain ⟨B, hB⟩ : ∃ B, B = w.heap.size + 1 := ⟨_, rfl⟩
  rw [← hB] at H2
  clear hb1 hb2 hk h hr hcs hA hn
  go_enter Tryz.func56, Tryz.ntmps56
  go_upto_region 3 with fail
  rw [← hW1, ← hB]
  clear hW1
  have HBd := Lib.hid hB
  clear hB
  go_upto_region 4 with (go_at_call 52; refine HC.out.mono ?_; rintro e w2 ⟨v2, rfl, ho2, hk2⟩; obtain ⟨A2, c2', rfl⟩ := own_slice ho2; have HO2 := Lib.hid ho2; have HK2 := Lib.hid hk2; have hb3 := hk2.heap H2.out (by simp); have g1 := Boxed.cell (v := .slice none 0 0) hb3; have gf1 := Boxed.frozen (v := .slice none 0 0) hb3; have HB3 := Lib.hid hb3; clear ho2 hk2 hb3)
  go_wp2
  go_ret
  have hkB : Kept (fun k => k = B) w2 (w2.setCell ⟨B, 0, none⟩ (.slice A2 ms.length c2')) := (Kept.refl (fun k => k = B) w2).setCell (fun _ => rfl) _
  have hBd := HBd.out
  have h1s := HK.out.size
  refine ⟨.slice A2 ms.length c2', by rw [← hBd]; rfl, ?_, ?_, ?_, ?_⟩
  · exact hkB.heap (HK2.out.heap H1.out (by simp)) (by omega)
  · rw [← hBd]; exact (show Boxed w2 B 48 (.slice none 0 0) from HB3.out).set _
  · refine own_kept (own_low HO2.out h1s) hkB fun k e e2 => ?_
    have := own_ge HO2.out k e
    have hl2 := (Array.getElem?_eq_some_iff.1 (show W1.heap[B]? = _ from H2.out)).1
    omega
  · exact (HK.out.trans' HK2.out).trans hkB fun i hi e => by omega
end Go.Proofs.YtibalgfejfjndaaGreatDoor
end

/-! The iterator that From hands back. -/
section
set_option linter.unusedVariables false
set_option linter.unusedSimpArgs false
namespace Go.Proofs.YtibalgfejfjndaaGreatDoor
open Go.RowKit Go.Sort
attribute [local go_sem] Oper.semAt_some

theorem own_same {w w' : World} {base e size n : Nat} {v : Value} {xs : List Value} (h : w.ownsRow base e size v n xs) (hk : ∀ k, v.ownBlock = some k → w'.heap[k]? = w.heap[k]?) : w'.ownsRow base e size v n xs :=
  ⟨h.1, h.2.imp id fun ⟨g, cap, cur, hv, hb, hh, r⟩ => ⟨g, cap, cur, hv, hb, (hk g (by rw [hv]; rfl)).trans hh, r⟩⟩
/-- What the iterator reads. -/
structure FromAt (w : World) (Bp Bo off : Nat) (v : Value) (ms : List PM) : Prop where
  bp : Boxed w Bp 48 v
  bo : Boxed w Bo 27 (.int .u64 (off : Nat))
  row : RowM w v ms
  rs : ∀ p ∈ ms, BBs w p.A p.rs
/-- The blocks that it reads. -/
def rdM (Bp Bo : Nat) (v : Value) (ms : List PM) (k : Nat) : Prop := k = Bp ∨ k = Bo ∨ v.ownBlock = some k ∨ ∃ p ∈ ms, (p.rs ≠ [] ∧ rdOf p.A k) ∨ ∃ r ∈ p.rs, r.b ≠ [] ∧ rdOf r.A k
section
variable {w w' : World} {Bp Bo off : Nat} {v : Value} {ms : List PM}
theorem FromAt.same (h : FromAt w Bp Bo off v ms) (hk : ∀ k, rdM Bp Bo v ms k → w'.heap[k]? = w.heap[k]?) : FromAt w' Bp Bo off v ms := by
  refine ⟨(hk _ (.inl rfl)).trans h.bp, (hk _ (.inr (.inl rfl))).trans h.bo, own_same h.row fun k e => hk k (.inr (.inr (.inl e))), fun p hp j r hr => ?_⟩
  obtain ⟨ad, h1, h2, h3, h4⟩ := h.rs p hp j r hr
  have hne : p.rs ≠ [] := fun e2 => by rw [e2] at hr; simp at hr
  refine ⟨ad, h1, (World.cell?_of_block (hk _ (.inr (.inr (.inr ⟨p, hp, .inl ⟨hne, ad, h1, (add_block ad j).symm⟩⟩))))).trans h2, ⟨h3.1, fun ad2 e j2 u hu => ?_⟩, h4⟩
  have hne2 : r.b ≠ [] := fun e2 => by rw [e2] at hu; simp at hu
  exact (World.cell?_of_block (hk _ (.inr (.inr (.inr ⟨p, hp, .inr ⟨r, List.mem_of_getElem? hr, hne2, ad2, e, (add_block ad2 j2).symm⟩⟩))))).trans (h3.2 ad2 e j2 u hu)
theorem FromAt.lt (h : FromAt w Bp Bo off v ms) : ∀ k, rdM Bp Bo v ms k → k < w.heap.size := by
  rintro k (rfl | rfl | e | ⟨p, hp, ⟨hne, ad, e, rfl⟩ | ⟨r, hr, hne, ad, e, rfl⟩⟩)
  · exact (Array.getElem?_eq_some_iff.1 h.bp).1
  · exact (Array.getElem?_eq_some_iff.1 h.bo).1
  · exact own_ltH h.row k e
  · obtain ⟨r, hr⟩ : ∃ r, p.rs[0]? = some r := by cases h9 : p.rs with
      | nil => exact absurd h9 hne
      | cons r l => exact ⟨r, rfl⟩
    obtain ⟨ad2, h1, h2, -⟩ := h.rs p hp 0 r hr
    rw [e] at h1; injection h1 with h1; subst h1
    have := World.block_lt_of_cell? w _ h2
    rwa [add_block] at this
  · obtain ⟨j, hj⟩ := List.mem_iff_getElem?.1 hr
    obtain ⟨ad2, h1, h2, h3, h4⟩ := h.rs p hp j r hj
    obtain ⟨u, hu⟩ : ∃ u, r.b[0]? = some u := by cases h9 : r.b with
      | nil => exact absurd h9 hne
      | cons u l => exact ⟨u, rfl⟩
    have := World.block_lt_of_cell? w _ (h3.2 ad e 0 (bv u) (by simp [hu]))
    rwa [add_block] at this
theorem FromAt.stay (h : FromAt w Bp Bo off v ms) (hk : Kept (fun _ => False) w w') : FromAt w' Bp Bo off v ms :=
  h.same fun k hr => hk.block k (h.lt k hr) (by simp)
end
/-- What is handed to a round. -/
def encR (x : List UInt8 × Nat) (v : Value) : Array Value := #[.int .u64 (x.2 : Nat), v]
def okR (b : Nat) (x : List UInt8 × Nat) (v : Value) (W : World) : Prop := W.ownsRow b 5 1 v x.1.length (x.1.map bv)
set_option maxRecDepth 100000 in
set_option maxHeartbeats 8000000 in
theorem slFrom1_iter (Bp Bo off : Nat) (v : Value) (ms : List PM) (w : World) (h : FromAt w Bp Bo off v ms) (hl : ms.length ≤ 900000) (hr : ∀ p ∈ ms, p.rs.length ≤ 1000000 ∧ p.first ≤ 1000000000 ∧ ∀ r ∈ p.rs, r.b.length ≤ 1000000) :
    IterF Tryz.prog 72 #[.pointer (some ⟨Bp, 0, none⟩), .pointer (some ⟨Bo, 0, none⟩)] encR (okR w.heap.size) (fun _ => False) (rdM Bp Bo v ms) (recsFr off (ms.map PM.prt)) w := by
  intro l J Jx S0 W hW hJ hJx hSs hY h0
  refine callsIn_of_wp Tryz.func72 rfl trivial ?_ rfl
  have hF := h.stay hW
  obtain ⟨A, c, rfl⟩ := own_slice h.row
  have hcp := hF.bp.cell
  obtain ⟨n, hn⟩ : ∃ n, n = ms.length := ⟨_, rfl⟩
  rw [← hn] at hcp hF hl h
  obtain ⟨V, hV⟩ : ∃ V, V = Value.slice A n c := ⟨_, rfl⟩
  have hV9 : V = Value.slice A ms.length c := by rw [hV, hn]
  rw [← hn, ← hV] at hSs
  rw [← hV] at hF
  have Hn := Lib.hid hn
  have HV := Lib.hid hV
  have HR := Lib.hid hr
  have HY := Lib.hid hY
  have H0 := Lib.hid h0
  have HJ := Lib.hid hJ
  have HSs := Lib.hid hSs
  have HW := Lib.hid hW.size
  have HF := Lib.hid hF
  clear h hW hY hr hn h0 hF hJ hSs hV hV9
  simp only [Tryz.ntmps72, List.size_toArray, List.length_cons, List.length_nil, Nat.reduceAdd, Nat.reduceSub, Array.replicate_succ, Array.replicate_zero, List.push_toArray, List.append_toArray, List.nil_append, List.cons_append]
  gi_wp2
  gi_loopw [11] (fun i wr => ∃ (j : Nat) (pre : List ((List UInt8 × Nat) × Value)), i = .int .i64 j ∧ j ≤ n ∧ Hid (pre.map Prod.fst = recsFr off ((ms.take j).map PM.prt)) ∧ Hid (∃ S, J pre S wr) ∧ Hid (FromAt wr Bp Bo off V ms) ∧ Hid (w.heap.size ≤ wr.heap.size)) (fun i _ => n - iNat i)
  case atStart => exact ⟨0, [], rfl, by omega, Lib.hid rfl, Lib.hid ⟨_, H0.out⟩, HF, HW⟩
  case round =>
    obtain ⟨j, pre, rfl, hj, hpre, hJ1, hF1, hw1⟩ := hrel
    by_cases hlt : j < n
    · have hlt' : (j : Int) < (n : Int) := by omega
      obtain ⟨p, hp⟩ : ∃ p, ms[j]? = some p := ⟨_, List.getElem?_eq_getElem (by have := Hn.out; omega)⟩
      obtain ⟨G, c', hvf, -, hcn, -, -, hcell⟩ := hF1.out.row.form (fun e => by have := Hn.out; rw [e] at this; simp at this; omega)
      rw [HV.out] at hvf
      simp only [Value.slice.injEq] at hvf
      obtain ⟨rfl, -, rfl⟩ := hvf
      obtain ⟨x0, x1, x2⟩ := hcell j p hp
      unfold PM.rv at x1
      obtain ⟨lr, hlr⟩ : ∃ lr, lr = p.rs.length := ⟨_, rfl⟩
      rw [← hlr] at x1
      obtain ⟨f, hf⟩ : ∃ f, f = p.first := ⟨_, rfl⟩
      rw [← hf] at x0
      obtain ⟨sz, hsz⟩ : ∃ sz, sz = szP p.prt := ⟨_, rfl⟩
      rw [← hsz] at x2
      obtain ⟨pA, hpA⟩ : ∃ pA, pA = p.A := ⟨_, rfl⟩
      rw [← hpA] at x1
      have HpA := Lib.hid hpA
      clear hpA
      have Hp := Lib.hid hp
      have Hlr := Lib.hid hlr
      have Hf := Lib.hid hf
      clear hcell hp hlr hf hsz hcn
      gi_wp2_with fail
      obtain ⟨B2, hB2⟩ : ∃ B2, B2 = wr.heap.size := ⟨_, rfl⟩
      obtain ⟨V2, hV2⟩ : ∃ V2, V2 = wr.alloc (.cells #[.int .u64 (f : Nat), .slice pA lr p.c, .int .i64 (sz : Nat)] 61) := ⟨_, rfl⟩
      have hkv : Kept (fun _ => False) wr V2 := by rw [hV2]; exact (Kept.refl _ wr).alloc _
      have HB : Hid (V2.heap[B2]? = some (.cells #[.int .u64 (f : Nat), .slice pA lr p.c, .int .i64 (sz : Nat)] 61 (0, 0))) := Lib.hid (by rw [hV2, hB2]; exact heap_alloc_new wr _)
      have HJ2 : Hid (∃ S, J pre S V2 ∧ ¬ S B2) := Lib.hid (by
        obtain ⟨S, hS⟩ := hJ1.out
        exact ⟨S, HJ.out _ _ _ _ hS hkv, fun h => by have := (HSs.out _ _ _ hS B2 h).1; omega⟩)
      have HF2 := Lib.hid (hF1.out.stay hkv)
      have Hw2 : Hid (w.heap.size ≤ V2.heap.size) := Lib.hid (Nat.le_trans hw1.out hkv.size)
      have Hpre : Hid (pre.map Prod.fst = recsFr off ((ms.take j).map PM.prt) ++ recsL off f ((p.rs.take 0).map BV.b)) := Lib.hid (by rw [hpre.out]; simp [recsL])
      rw [← hB2, ← hV2]
      have hlr9 : lr ≤ 1000000 := by have := (HR.out p (List.mem_of_getElem? Hp.out)).1; have := Hlr.out; omega
      have hf9 : f ≤ 1000000000 := by have := (HR.out p (List.mem_of_getElem? Hp.out)).2.1; have := Hf.out; omega
      clear hB2 hV2 hkv x0 x1 x2 hpre hJ1 hF1 hw1 hcp
      gi_loopw [18] (fun i w2 => ∃ (k : Nat) (pre2 : List ((List UInt8 × Nat) × Value)), i = .int .i64 k ∧ k ≤ lr ∧ Hid (pre2.map Prod.fst = recsFr off ((ms.take j).map PM.prt) ++ recsL off f ((p.rs.take k).map BV.b)) ∧ Hid (∃ S, J pre2 S w2 ∧ ¬ S B2) ∧ Hid (FromAt w2 Bp Bo off V ms) ∧ Hid (w2.heap[B2]? = some (.cells #[.int .u64 (f : Nat), .slice pA lr p.c, .int .i64 (sz : Nat)] 61 (0, 0))) ∧ Hid (w.heap.size ≤ w2.heap.size)) (fun i _ => lr - iNat i)
      case' atStart => exact ⟨0, pre, rfl, by omega, Hpre, HJ2, HF2, HB, Hw2⟩
      clear Hpre HJ2 HF2 HB Hw2
      obtain ⟨k, pre2, rfl, hk, hpre, hJ1, hF1, hB1, hw1⟩ := hrel
      by_cases hkl : k < lr
      · have hkl' : (k : Int) < (lr : Int) := by omega
        obtain ⟨r, hr⟩ : ∃ r, p.rs[k]? = some r := ⟨_, List.getElem?_eq_getElem (by have := Hlr.out; omega)⟩
        obtain ⟨ad, had, y0, hbs, hrn⟩ := hF1.out.rs p (List.mem_of_getElem? Hp.out) k r hr
        have z0 : wr.cell? ⟨B2, 0, none⟩ = some (.int .u64 (f : Nat)) := by simp [World.cell?, hB1.out]
        have zo := hF1.out.bo.cell
        obtain ⟨y, hy⟩ : ∃ y, y = f + k := ⟨_, rfl⟩
        have h5 : IntKind.u64.wrap ((k : Nat) : Int) = (k : Int) := by rw [IntKind.wrap_u64]; omega
        have h6 : IntKind.u64.wrap ((f : Int) + (k : Int)) = ((y : Nat) : Int) := by rw [IntKind.wrap_u64]; omega
        have HBs := Lib.hid hbs
        have HRn := Lib.hid hrn
        have Hr := Lib.hid hr
        have Hy := Lib.hid hy
        have Hsum : Hid (recsFr off (ms.map PM.prt) = pre2.map Prod.fst ++ recsL off y [r.b] ++ (recsL off (y + 1) ((p.rs.drop (k + 1)).map BV.b) ++ recsFr off ((ms.drop (j + 1)).map PM.prt))) := Lib.hid (by
          have hjm := (List.getElem?_eq_some_iff.1 Hp.out)
          have hkm := (List.getElem?_eq_some_iff.1 Hr.out)
          have e1 : ms = ms.take j ++ p :: ms.drop (j + 1) := by rw [← hjm.2, ← List.drop_eq_getElem_cons hjm.1, List.take_append_drop]
          have e2 : p.rs = p.rs.take k ++ r :: p.rs.drop (k + 1) := by rw [← hkm.2, ← List.drop_eq_getElem_cons hkm.1, List.take_append_drop]
          have e3 : recsFr off [p.prt] = recsL off f ((p.rs.take k).map BV.b) ++ (recsL off y [r.b] ++ recsL off (y + 1) ((p.rs.drop (k + 1)).map BV.b)) := by
            have e4 : recsFr off [p.prt] = recsL off f (p.rs.map BV.b) := by simp [recsFr, PM.prt, Hf.out]
            have e5 : (p.rs.take k).length = k := by rw [List.length_take]; have := Hlr.out; omega
            rw [e4]
            conv => lhs; rw [e2]
            rw [List.map_append, List.map_cons, recsL_app, List.length_map, e5, ← Hy.out, show r.b :: (p.rs.drop (k + 1)).map BV.b = [r.b] ++ (p.rs.drop (k + 1)).map BV.b from rfl, recsL_app, List.length_singleton]
          rw [hpre.out]
          conv => lhs; rw [e1]
          rw [List.map_append, List.map_cons, recsFr_app, show p.prt :: (ms.drop (j + 1)).map PM.prt = [p.prt] ++ (ms.drop (j + 1)).map PM.prt from rfl, recsFr_app, e3]
          simp [List.append_assoc])
        have Hpre2 : Hid (pre2.map Prod.fst ++ recsL off y [r.b] = recsFr off ((ms.take j).map PM.prt) ++ recsL off f ((p.rs.take (k + 1)).map BV.b)) := Lib.hid (by
          have e5 : (p.rs.take k).length = k := by rw [List.length_take]; have := Hlr.out; omega
          rw [hpre.out, List.take_add_one, Hr.out, Option.toList_some, List.map_append, recsL_app, List.length_map, e5, ← Hy.out, List.append_assoc]; rfl)
        have hb9 : r.b.length ≤ 1000000 := (HR.out p (List.mem_of_getElem? Hp.out)).2.2 r (List.mem_of_getElem? hr)
        have hpA : pA = some ad := by rw [HpA.out, had]
        clear HpA
        subst hpA
        clear hbs hrn hr hy had
        by_cases hoff : off ≤ y
        · have hge : (off : Int) ≤ (y : Int) := by omega
          have HC : Hid (Calls Tryz.prog 39 #[.slice r.A r.b.length r.c] wr (ClonePost wr r.b)) := Lib.hid (clone_any wr r.A r.b.length r.c r.b rfl (by omega) HBs.out HRn.out)
          rw [recsL_one, if_pos hoff] at Hsum Hpre2
          gi_wp2_with (first | (refine ⟨trivial, ?_⟩; gi_at_call 39; refine (callsIn_wide.2 HC.out).mono ?_; rintro e w3 ⟨v3, rfl, ho3, hk3⟩; obtain ⟨A3, c3, rfl⟩ := own_slice ho3; obtain ⟨S, hJS, hnB⟩ := hJ1.out; have hJ3 := HJ.out _ _ _ _ hJS hk3; obtain ⟨fn, tmps, assign, body, hy, hR⟩ := HY.out pre2 S (r.b, y) (.slice A3 r.b.length c3) _ w3 (by rw [Hsum.out, List.append_assoc]; rfl) hJ3 (own_low ho3 hw1.out); unfold encR at hy; have HR3 := Lib.hid hR; have HK3 := Lib.hid hk3; have HJ3 := Lib.hid hJ3; have HnB := Lib.hid hnB; clear ho3 hJS hJ3 hnB hR hk3))
          refine HR3.out.mono ?_
          rintro e w4 (⟨rfl, S', hJ4, hk4, hs4⟩ | ⟨rfl, hJx4⟩)
          · have HX : Hid ((∃ S, J (pre2 ++ [((r.b, y), Value.slice A3 r.b.length c3)]) S w4 ∧ ¬ S B2) ∧ FromAt w4 Bp Bo off V ms ∧ w4.heap[B2]? = some (.cells #[.int .u64 (f : Nat), .slice (some ad) lr p.c, .int .i64 (sz : Nat)] 61 (0, 0)) ∧ w.heap.size ≤ w4.heap.size) := Lib.hid (by
              have hB3 := HK3.out.heap hB1.out (by simp)
              have hlt3 := (Array.getElem?_eq_some_iff.1 hB3).1
              refine ⟨⟨S', hJ4, fun h => ?_⟩, (hF1.out.stay HK3.out).same fun q hq => ?_, hk4.heap hB3 HnB.out, ?_⟩
              · rcases hs4 B2 h with h | h
                · exact HnB.out h
                · omega
              · exact hk4.block q ((hF1.out.stay HK3.out).lt q hq) fun h => (HSs.out _ _ _ HJ3.out q h).2 hq
              · have := HK3.out.size; have := hk4.size; have := hw1.out; omega)
            clear hJ4 hk4 hs4
            gi_wp2
            go_roundw
            case rel => exact ⟨k + 1, pre2 ++ [((r.b, y), Value.slice A3 r.b.length c3)], congrArg (Value.int .i64) (by omega), by omega, Lib.hid (by rw [List.map_append]; exact Hpre2.out), Lib.hid HX.out.1, Lib.hid HX.out.2.1, Lib.hid HX.out.2.2.1, Lib.hid HX.out.2.2.2⟩
            case measure => simp only [iNat]; omega
          · gi_wp2
            refine bodyPost_ret (results_none rfl _ _ _) rfl ?_
            refine ⟨⟨_, rfl⟩, .inr ⟨_, ?_, hJx4⟩⟩
            rw [Hsum.out, List.map_append]
            exact List.prefix_append _ _
        · have hge : (y : Int) < (off : Int) := by omega
          rw [recsL_one, if_neg hoff, List.append_nil] at Hpre2
          gi_wp2
          refine ⟨trivial, ?_⟩
          gi_wp2
          refine ⟨(fun f hf => by cases hf), ?_⟩
          gi_wp2
          go_roundw
          case rel => exact ⟨k + 1, pre2, congrArg (Value.int .i64) (by omega), by omega, Hpre2, hJ1, hF1, hB1, hw1⟩
          case measure => simp only [iNat]; omega
      · have hkl' : ¬ (k : Int) < (lr : Int) := by omega
        have hkr : k = lr := by omega
        have Hkr := Lib.hid hkr
        clear hkr
        gi_wp2
        go_roundw
        case rel =>
          refine ⟨j + 1, pre2, congrArg (Value.int .i64) (by omega), by omega, Lib.hid ?_, Lib.hid ?_, hF1, hw1⟩
          · rw [hpre.out, List.take_of_length_le (l := p.rs) (by have := Hlr.out; have := Hkr.out; omega), List.take_add_one, Hp.out, Option.toList_some, List.map_append, recsFr_app]
            simp [recsFr, PM.prt, Hf.out]
          · obtain ⟨S, h1, -⟩ := hJ1.out
            exact ⟨S, h1⟩
        case measure => simp only [iNat]; omega
    · have hlt' : ¬ (j : Int) < (n : Int) := by omega
      gi_wp2
      refine bodyPost_end (results_none rfl _ _ _) rfl ?_
      have : ms.take j = ms := List.take_of_length_le (by have := Hn.out; omega)
      obtain ⟨S, hS⟩ := hJ1.out
      exact ⟨⟨_, rfl⟩, .inl ⟨pre, by rw [hpre.out, this], S, hS⟩⟩
end Go.Proofs.YtibalgfejfjndaaGreatDoor
end

/-! A region that draws its order, in a round or not: loads are taken first, though stores behind them all turn what they read. -/
section
set_option linter.unusedVariables false
set_option linter.unusedSimpArgs false
namespace Go.Proofs.YtibalgfejfjndaaGreatDoor

section
variable {P : Program} {md : Region.Mode} {ops : Array Oper} {Q : Exit → Act → World → Prop} {S : World → Prop} {E : Nat → Bool}
/-- Whatever order is taken; behind every operation but those of E the condition S is met. -/
def wpAnyE (P : Program) (md : Region.Mode) (ops : Array Oper) (Q : Exit → Act → World → Prop) (S : World → Prop) (E : Nat → Bool) : Nat → Array Bool → Act → World → Prop
  | 0, listed, a, w => Region.ready md ops listed = [] ∧ Q .normal a w
  | n + 1, listed, a, w => (Region.ready md ops listed = [] → Q .normal a w) ∧ ∀ i ∈ Region.ready md ops listed, wpOp P ops Q i (fun a' w' => (E i = false → S w') ∧ wpAnyE P md ops Q S E n (listed.setIfInBounds i true) a' w') a w
theorem wpAny_of_E : ∀ (n : Nat) (listed : Array Bool) (a : Act) (w : World), wpAnyE P md ops Q S E n listed a w → wpAny P md ops Q n listed a w
  | 0, _, _, _, h => h
  | n + 1, _, _, _, h => ⟨h.1, fun i hi => wpOp_mono (fun a w h => wpAny_of_E n _ a w h.2) (h.2 i hi)⟩
/-- Number j waits for number i, through at most so many others. -/
def waits (md : Region.Mode) (ops : Array Oper) : Nat → Nat → Nat → Bool
  | 0, _, _ => false
  | n + 1, j, i => (ops[j]?.map fun o => o.after.any fun e => Region.binds md e && (e.on == i || waits md ops n e.on i)).getD false
/-- What has come up has come up behind what it waits for. -/
def ShutL (md : Region.Mode) (ops : Array Oper) (listed : Array Bool) : Prop := ∀ (j : Nat) (o : Oper), ops[j]? = some o → listed.getD j false = true → ∀ e ∈ o.after, Region.binds md e = true → listed.getD e.on false = true
def shutB (md : Region.Mode) (ops : Array Oper) (listed : Array Bool) : Bool := (List.range ops.size).all fun j => !listed.getD j false || ((ops[j]?.map fun o => o.after.all fun e => !Region.binds md e || listed.getD e.on false).getD false)
theorem shutB_spec {listed : Array Bool} (h : shutB md ops listed = true) : ShutL md ops listed := fun j o ho hl e he hb => by
  have hj := (Array.getElem?_eq_some_iff.1 ho).1
  have h1 := List.all_eq_true.1 h j (List.mem_range.2 hj)
  rw [hl, ho] at h1
  simp only [Bool.not_true, Option.map_some, Option.getD_some, Bool.false_or] at h1
  have h2 := Array.all_eq_true'.1 h1 e he
  rw [hb] at h2
  simpa using h2
theorem ShutL.set {listed : Array Bool} {i : Nat} (h : ShutL md ops listed) (hi : i ∈ Region.ready md ops listed) : ShutL md ops (listed.setIfInBounds i true) := fun j o ho hl e he hb => by
  by_cases hij : i = j
  · subst hij
    obtain ⟨-, o', ho', hall⟩ := mem_ready.1 hi
    rw [ho] at ho'
    injection ho' with ho'
    subst ho'
    exact getD_set_true (hall e he hb)
  · rw [getD_set_ne false hij] at hl
    exact getD_set_true (h j o ho hl e he hb)
theorem waits_spec {listed : Array Bool} {i : Nat} (h : ShutL md ops listed) : ∀ (n j : Nat), (∀ o, ops[j]? = some o → ∀ e ∈ o.after, Region.binds md e = true → listed.getD e.on false = true) → waits md ops n j i = true → listed.getD i false = true
  | 0, j, _, hw => by cases hw
  | n + 1, j, hj, hw => by
    unfold waits at hw
    cases ho : ops[j]? with
    | none => rw [ho] at hw; cases hw
    | some o =>
      rw [ho] at hw
      simp only [Option.map_some, Option.getD_some] at hw
      obtain ⟨e, he, h2⟩ := Array.any_eq_true'.1 hw
      rw [Bool.and_eq_true, Bool.or_eq_true, beq_iff_eq] at h2
      have h3 := hj o ho e he h2.1
      rcases h2.2 with h4 | h4
      · rw [← h4]; exact h3
      · exact waits_spec h n e.on (fun o2 ho2 e2 he2 hb2 => h e.on o2 ho2 h3 e2 he2 hb2) h4
/-- Each of E waits for number i. -/
def waitB (md : Region.Mode) (ops : Array Oper) (E : Nat → Bool) (i : Nat) : Bool := (List.range ops.size).all fun j => !E j || waits md ops 4 j i
theorem wpAnyE_first {i : Nat} {oi : Oper} {v : Value} (hi : ops[i]? = some oi) (hsel : ∀ (j : Nat) (o : Oper) cs b, ops[j]? = some o → o.op ≠ .select cs b)
    (hQ : ∀ c a w, Q (.panic c) (a.put oi.dst v) w → Q (.panic c) a w) (hE : waitB md ops E i = true) (hEi : E i = false) : ∀ (n : Nat) (listed : Array Bool) (a : Act) (w : World), ShutL md ops listed →
      (∀ j oj, ops[j]? = some oj → j ≠ i → listed.getD j true = false → (∀ e ∈ oj.after, Region.binds md e = true → e.on ≠ i) → oi.apart ops oj = true) →
      i ∈ Region.ready md ops listed → YieldsIf P ops S oi v a → S w →
      wpAnyE P md ops Q S E n (listed.setIfInBounds i true) (a.put oi.dst v) w → wpAnyE P md ops Q S E (n + 1) listed a w
  | n, listed, a, w, hcl, hfree, hr, hy, hS, H => by
    refine ⟨fun h => (by rw [h] at hr; cases hr), fun j hj => ?_⟩
    by_cases hji : j = i
    · subst hji
      exact hy.wpOp hi hS ⟨fun _ => hS, H⟩
    · obtain ⟨hun, oj, hoj, hall⟩ := mem_ready.1 hj
      have hi0 := (mem_ready.1 hr).1
      have hno : ∀ x, listed.getD i false = true → x := fun x h1 => by
        simp only [Array.getD_eq_getD_getElem?] at h1 hi0
        cases h9 : listed[i]? with
        | none => rw [h9] at hi0; cases hi0
        | some x => rw [h9] at h1 hi0; simp only [Option.getD_some] at h1 hi0; rw [h1] at hi0; cases hi0
      have hnot : ∀ e ∈ oj.after, Region.binds md e = true → e.on ≠ i := fun e he hb heq => hno _ (by rw [← heq]; exact hall e he hb)
      have hEj : E j = false := by
        cases h : E j with
        | false => rfl
        | true =>
          have hjl := (Array.getElem?_eq_some_iff.1 hoj).1
          have h1 := List.all_eq_true.1 hE j (List.mem_range.2 hjl)
          rw [h, Bool.not_true, Bool.false_or] at h1
          exact hno _ (waits_spec hcl 4 j (fun o ho e he hb => by rw [hoj] at ho; injection ho with ho; subst ho; exact hall e he hb) h1)
      cases n with
      | zero =>
        have h9 := ready_mono hj hji
        rw [H.1] at h9
        cases h9
      | succ n =>
        have h2 := wpOp_putIf hoj (hfree j oj hoj hji hun hnot) (fun cs b => hsel i oi cs b hi) (fun cs b => hsel j oj cs b hoj) hQ hy (H.2 j (ready_mono hj hji))
        refine wpOp_mono (fun a' w' h3 => ⟨fun _ => h3.2.1 hEj, wpAnyE_first hi hsel hQ hE hEi n (listed.setIfInBounds j true) a' w' (hcl.set hj) (fun k ok hk hki hk2 hno => hfree k ok hk hki ?_ hno) (ready_mono hr (Ne.symm hji)) h3.1 (h3.2.1 hEj) ?_⟩) h2
        · by_cases hjk : j = k
          · subst hjk; exact hun
          · rwa [getD_set_ne true hjk] at hk2
        · rw [Array.setIfInBounds_comm _ _ hji]
          exact h3.2.2
theorem wpAnyE_take {i : Nat} {oi : Oper} {v : Value} {n : Nat} {listed : Array Bool} {a : Act} {w : World} (hi : ops[i]? = some oi) (hs : Region.noSelect ops = true) (hf : Region.free md ops listed i = true) (hr : (Region.ready md ops listed).contains i = true)
    (hQ : ∀ c a w, Q (.panic c) (a.put oi.dst v) w → Q (.panic c) a w) (hE : (waitB md ops E i && shutB md ops listed) = true) (hEi : E i = false) (hy : YieldsIf P ops S oi v a) (hS : S w)
    (h : wpAnyE P md ops Q S E n (listed.setIfInBounds i true) (a.put oi.dst v) w) : wpAnyE P md ops Q S E (n + 1) listed a w :=
  wpAnyE_first hi (Region.noSelect_spec hs) hQ (Bool.and_eq_true_iff.1 hE).1 hEi n listed a w (shutB_spec (Bool.and_eq_true_iff.1 hE).2) (Region.free_spec hi hf) (by simpa using hr) hy hS h
/-- Each of 'rs' comes up next. -/
def ReadyE (P : Program) (md : Region.Mode) (ops : Array Oper) (Q : Exit → Act → World → Prop) (S : World → Prop) (E : Nat → Bool) (n : Nat) (listed : Array Bool) (a : Act) (w : World) (rs : List Nat) : Prop :=
  ∀ i ∈ rs, wpOp P ops Q i (fun a' w' => (E i = false → S w') ∧ wpAnyE P md ops Q S E n (listed.setIfInBounds i true) a' w') a w
theorem ReadyE.nil {n : Nat} {listed : Array Bool} {a : Act} {w : World} : ReadyE P md ops Q S E n listed a w [] := fun _ h => by cases h
theorem ReadyE.cons {n : Nat} {listed : Array Bool} {a : Act} {w : World} {i : Nat} {o : Oper} {rs : List Nat} (ho : ops[i]? = some o)
    (h : ∀ K : Act → World → Prop, Shut (∀ a w, (E i = false → S w) → wpAnyE P md ops Q S E n (listed.setIfInBounds i true) a w → K a w) → if Region.wanted o (yielded ops a.tmps) = true then Oper.wp P o a w K Q else K (a.put o.dst undef) w)
    (hs : ReadyE P md ops Q S E n listed a w rs) : ReadyE P md ops Q S E n listed a w (i :: rs) := fun j hj => by
  rcases List.mem_cons.1 hj with rfl | hj
  · exact wpOp_step ho fun K hK => h K fun a w h1 h2 => hK a w ⟨h1, h2⟩
  · exact hs j hj
theorem wpAnyE_ready {rs : List Nat} {n : Nat} {listed : Array Bool} {a : Act} {w : World} (hr : Region.ready md ops listed = rs) (hne : rs ≠ []) (h : ReadyE P md ops Q S E n listed a w rs) : wpAnyE P md ops Q S E (n + 1) listed a w :=
  ⟨fun h0 => absurd (hr ▸ h0) hne, hr ▸ h⟩
theorem wpAnyE_done {listed : Array Bool} {a : Act} {w : World} (hr : Region.ready md ops listed = []) (h : Q .normal a w) : ∀ n, wpAnyE P md ops Q S E n listed a w
  | 0 => ⟨hr, h⟩
  | _ + 1 => ⟨fun _ => h, by rw [hr]; simp⟩
end
/-- Plain operations, with the building of slices. -/
def plainE (o : Op) : Bool := plainB o || (match o with | .buildSlice .. => true | _ => false)
theorem wpIn_of_wpE {F : Fence} {n : Nat} {P : Program} {o : Oper} {a : Act} {w : World} {K : Act → World → Prop} {Q : Exit → Act → World → Prop} (hp : plainE o.op = true) (h : o.wp P a w K Q) : o.wpIn F n P a w K Q := by
  rcases Bool.or_eq_true_iff.1 hp with h1 | h1
  · exact wpIn_of_wp h1 h
  · cases ho : o.op <;> rw [ho] at h1 <;> first | (exfalso; revert h1; simp; done) | skip
    have hab : o.about P w a.eval = none := by unfold Oper.about; rw [ho]
    unfold Oper.wpIn
    refine ⟨fun f hf => (by rw [hab] at hf; cases hf), ?_⟩
    rw [Oper.semAt_eq _ _ _ (fun c hc => by rw [hc] at ho; cases ho)]
    have hr : resPlain ((execOp a.eval o).run P w) := by
      unfold execOp
      rw [ho]
      exact plain_bind _ _ fun _ => rfl
    unfold Oper.wp at h
    generalize (execOp a.eval o).run P w = r at *
    cases r with
    | ok nx w' => cases nx <;> first | (simp [resPlain, nextB] at hr; done) | exact h
    | halt x w' => cases x <;> exact h
theorem about_plainE {P : Program} {o : Oper} {ρ : Operand → Value} {w : World} (hp : plainE o.op = true) : o.about P w ρ = none := by
  rcases Bool.or_eq_true_iff.1 hp with h1 | h1
  · exact about_plain h1
  · cases ho : o.op <;> rw [ho] at h1 <;> first | (exfalso; revert h1; simp; done) | skip
    unfold Oper.about
    rw [ho]
theorem wpAnyIn_of_wpAnyE {F : Fence} {n : Nat} {P : Program} {md : Region.Mode} {ops : Array Oper} {Q : Exit → Act → World → Prop} (hp : ∀ (i : Nat) (o : Oper), ops[i]? = some o → plainE o.op = true) (hQ : ¬ LetsOut Q) : ∀ (fuel : Nat) (listed : Array Bool) (a : Act) (w : World),
    wpAny P md ops Q fuel listed a w → wpAnyIn F n P md ops Q fuel listed a w
  | 0, _, _, _, h => h
  | fuel + 1, listed, a, w, h => by
    refine ⟨h.1, fun i hi => ?_⟩
    have := h.2 i hi
    unfold wpOp at this
    unfold wpOpIn
    cases ho : ops[i]? with
    | none => rw [ho] at this; exact wpAnyIn_of_wpAnyE hp hQ fuel _ _ _ this
    | some o =>
      simp only [ho] at this ⊢
      split
      · rename_i hw
        simp only [hw, if_true] at this
        rcases this with this | ⟨_, h2⟩
        · exact Oper.wpIn_mono (fun a w h => wpAnyIn_of_wpAnyE hp hQ fuel _ a w h) (wpIn_of_wpE (hp i o ho) this)
        · exact absurd h2 hQ
      · rename_i hw
        simp only [hw] at this
        exact ⟨fun f hf => (by rw [about_plainE (hp i o ho)] at hf; cases hf), wpAnyIn_of_wpAnyE hp hQ fuel _ _ _ this⟩
/-- The beginning, in a round of a range over a function: no operation calls. -/
theorem wpIn_region_E {F : Fence} {n : Nat} {P : Program} {id : Nat} {Q : Exit → Act → World → Prop} {a : Act} {w : World} {l : List Oper} (S : World → Prop) (E : Nat → Bool) (hm : P.follows .mixedOrders = true) (hp : (l.all fun o => plainE o.op) = true) (hQ : ¬ LetsOut Q)
    (h : wpAnyE P .any l.toArray Q S E l.toArray.size (Array.replicate l.toArray.size false) a w.drew) : (Code.region id l.toArray true).wpIn F n P Q a w :=
  wpIn_region_any hm (wpAnyIn_of_wpAnyE (fun i o ho => List.all_eq_true.1 hp o (by simpa using List.mem_of_getElem? (by simpa using ho))) hQ _ _ _ _ (wpAny_of_E _ _ _ _ h))
end Go.Proofs.YtibalgfejfjndaaGreatDoor
end
