import Derived.WalkKit
import Derived.RangeFuncNested
import Derived.RangeFuncBound
import Derived.RangeFuncCalls
import Derived.RangeFuncLeaves
import Derived.RangeFuncBox
import Derived.Lib.Hide
import Derived.Deep.Draws
import Derived.Test.YtcifhfdjigfeiaaGreatDoorProg
import Derived.WalkSpells
import Derived.WalkLawsBesides
import Derived.Lib.Bytealg
import Derived.Lib.IndexBytes
import Derived.Lib.Strings
import Derived.OwnWalkIn
import Derived.TacticsInMore
import Derived.LoopNIn
import Derived.LoopIn
import Derived.Shelf.Abstract
/-! Laws of this proof's own, over any program: what a call keeps; a range over a function whose iterator may have memory of its own. -/
section
set_option linter.unusedVariables false
set_option linter.unusedSimpArgs false
namespace Go.Proofs.YtcifhfdjigfeiaaGreatDoor
open Go.RowKit

/-- Of what was there, nothing has turned outside S. -/
structure Kept (S : Nat → Prop) (w w' : World) : Prop where
  os : w'.os = w.os
  tape : w'.tape = w.tape
  output : w'.output = w.output
  size : w.heap.size ≤ w'.heap.size
  block : ∀ k, k < w.heap.size → ¬ S k → w'.heap[k]? = w.heap[k]?
theorem Kept.refl (S : Nat → Prop) (w : World) : Kept S w w := ⟨rfl, rfl, rfl, Nat.le_refl _, fun _ _ _ => rfl⟩
theorem Kept.trans {S T : Nat → Prop} {a b c : World} (h : Kept S a b) (k : Kept T b c) (hT : ∀ i, i < a.heap.size → T i → S i) : Kept S a c :=
  ⟨k.os.trans h.os, k.tape.trans h.tape, k.output.trans h.output, Nat.le_trans h.size k.size, fun i hi hn => (k.block i (Nat.lt_of_lt_of_le hi h.size) (fun ht => hn (hT i hi ht))).trans (h.block i hi hn)⟩
theorem Kept.trans' {S : Nat → Prop} {a b c : World} (h : Kept S a b) (k : Kept S b c) : Kept S a c := h.trans k fun _ _ h => h
theorem Kept.mono {S T : Nat → Prop} {w w' : World} (h : Kept S w w') (hS : ∀ k, k < w.heap.size → S k → T k) : Kept T w w' := ⟨h.os, h.tape, h.output, h.size, fun k hk hn => h.block k hk fun hs => hn (hS k hk hs)⟩
theorem Kept.of_below {B : Nat} {w w' : World} (h : Below B w w') (S : Nat → Prop) (hS : ∀ k, B ≤ k → k < w.heap.size → S k) : Kept S w w' :=
  ⟨h.os, h.tape, h.output, h.size, fun k hk hn => h.block k (by rcases Nat.lt_or_ge k B with h' | h'; exact h'; exact absurd (hS k h' hk) hn)⟩
theorem Kept.below {S : Nat → Prop} {B : Nat} {w w' : World} (h : Kept S w w') (hB : B ≤ w.heap.size) (hS : ∀ k, S k → B ≤ k) : Below B w w' :=
  ⟨h.os, h.tape, h.output, h.size, fun k hk => h.block k (by omega) fun hs => by have := hS k hs; omega⟩
theorem Kept.alloc {S : Nat → Prop} {a w : World} (h : Kept S a w) (o : Obj) : Kept S a (w.alloc o) :=
  ⟨h.os, h.tape, h.output, by simp; have := h.size; omega, fun k hk hn => (Below.heap_alloc w o k (Nat.lt_of_lt_of_le hk h.size)).trans (h.block k hk hn)⟩
theorem Kept.drew {S : Nat → Prop} {a w : World} (h : Kept S a w) : Kept S a w.drew := ⟨h.os, h.tape, h.output, h.size, h.block⟩
theorem Kept.drewN {S : Nat → Prop} {a w : World} (h : Kept S a w) (n : Nat) : Kept S a (w.drewN n) := ⟨h.os, h.tape, h.output, h.size, h.block⟩
theorem Kept.setCell {S : Nat → Prop} {a w : World} (h : Kept S a w) {p : Addr} (hp : p.block < a.heap.size → S p.block) (u : Value) : Kept S a (w.setCell p u) :=
  ⟨h.os, h.tape, h.output, by simp [World.setCell]; exact h.size, fun k hk hn => (Below.heap_setCell w p u k (fun e => hn (by subst e; exact hp hk))).trans (h.block k hk hn)⟩
theorem Kept.putObj {S : Nat → Prop} {a w : World} (h : Kept S a w) {r : Nat} (hr : r < a.heap.size → S r) (o : Obj) : Kept S a (w.putObj r o) :=
  ⟨h.os, h.tape, h.output, by have := h.size; simpa [World.putObj] using this, fun k hk hn => (World.putObj_heap_other (fun e => hn (by subst e; exact hr hk))).trans (h.block k hk hn)⟩
theorem Kept.grown {S : Nat → Prop} {a w w' : World} {row : Option Nat} (h : Kept S a w) (hg : w.grownBy w' row) (hr : ∀ k, row = some k → k < a.heap.size → S k) : Kept S a w' :=
  ⟨hg.os.trans h.os, hg.tape.trans h.tape, hg.output.trans h.output, Nat.le_trans h.size hg.size, fun k hk hn => (hg.block k (Nat.lt_of_lt_of_le hk h.size) (fun e => hn (hr k e.symm hk))).trans (h.block k hk hn)⟩
theorem Kept.cell {S : Nat → Prop} {w w' : World} (h : Kept S w w') {p : Addr} {v : Value} (hc : w.cell? p = some v) (hp : ¬ S p.block) : w'.cell? p = some v :=
  (World.cell?_of_block (w := w) (h.block p.block (World.block_lt_of_cell? w p hc) hp)).trans hc
theorem Kept.heap {S : Nat → Prop} {w w' : World} (h : Kept S w w') {k : Nat} {o : Obj} (hc : w.heap[k]? = some o) (hp : ¬ S k) : w'.heap[k]? = some o :=
  (h.block k (Array.getElem?_eq_some_iff.1 hc).1 hp).trans hc

/-! ### A range over a function -/
/-- The iterator gf (with what it has captured, lb) tells xs, in order, or a part, a round having said 'no more'. It writes blocks of 'own' alone (and new ones); it asks of a round that goes on that the blocks of 'rd' stay. -/
def Iter {α : Type} (P : Program) (gf : Nat) (lb : Array Value) (encs : α → Array Value) (own rd : Nat → Prop) (xs : List α) (w : World) : Prop :=
  ∀ (l : Nat) (J Jx : List α → World → Prop) (W : World), Kept (fun _ => False) w W →
    (∀ pre A B, J pre A → Kept own A B → J pre B) → (∀ pre A B, Jx pre A → Kept own A B → Jx pre B) →
    (∀ pre x post W1, xs = pre ++ x :: post → J pre W1 → YieldAt Fence.wide 7 P l (encs x) W1 fun e W' =>
      (e = .returned (.bool true) ∧ J (pre ++ [x]) W' ∧ W1.heap.size ≤ W'.heap.size ∧ ∀ k, rd k → W'.heap[k]? = W1.heap[k]?) ∨ (e = .returned (.bool false) ∧ Jx (pre ++ [x]) W')) →
    J [] W →
    CallsIn Fence.wide 8 P gf (#[.func (.yield l) #[] #[]] ++ lb) W fun e W' => (∃ v, e = .returned v) ∧ (J xs W' ∨ ∃ pre, pre <+: xs ∧ Jx pre W')

/-- How a round may be left. -/
def roundPost {α : Type} (D : Nat) (rd : Nat → Prop) (I : List α → World → Prop) (Ix : Code → List α → World → Prop) (xs : List α) (W : World) : Exit → Act → World → Prop
  | .normal, _, W' => (W.heap.size ≤ W'.heap.size ∧ ∀ k, (rd k ∨ k = D ∨ k = D + 1) → W'.heap[k]? = W.heap[k]?) ∧ I xs W'
  | .ret, _, W' => (∀ k, (k = D ∨ k = D + 1) → W'.heap[k]? = W.heap[k]?) ∧ Ix .ret xs W'
  | .exit id, _, W' => (∀ k, (k = D ∨ k = D + 1) → W'.heap[k]? = W.heap[k]?) ∧ Ix (.exit id) xs W'
  | .goto t, _, W' => (∀ k, (k = D ∨ k = D + 1) → W'.heap[k]? = W.heap[k]?) ∧ Ix (.goto t) xs W'
  | .panic _, _, _ => False
  | .outgrown, _, _ => False

theorem putObj_kept (W : World) (l : Nat) (o : Obj) : Kept (fun k => k = l) W (W.putObj l o) := (Kept.refl (fun k => k = l) W).putObj (fun _ => rfl) o

/-- The law. D: the block of the rounds' deferred calls; D + 1: the loop's record. -/
theorem wp_range {α : Type} {P : Program} {g : Operand} {ps : Array Tmp} {assign body : Code} {Q : Exit → Act → World → Prop} {a : Act} {w : World}
    {gf : Nat} {lb : Array Value} (hg : a.eval g = .func (.func gf) #[] lb) (eg : ∀ args w, (callFunc gf args).run P w = .ok (.enter gf args) w)
    {encs : α → Array Value} {own rd : Nat → Prop} {xs : List α} (hit : Iter P gf lb encs own rd xs w) (hps : ∀ x, (encs x).size = ps.size)
    (ho : ∀ k, own k → k < w.heap.size) (hr : ∀ k, rd k → k < w.heap.size)
    (I : List α → World → Prop) (Ix : Code → List α → World → Prop)
    (hI : ∀ pre A B, I pre A → Kept (fun k => own k ∨ k = w.heap.size ∨ k = w.heap.size + 1) A B → I pre B)
    (hIx : ∀ c pre A B, Ix c pre A → Kept (fun k => own k ∨ k = w.heap.size ∨ k = w.heap.size + 1) A B → Ix c pre B)
    (h0 : I [] w) (a₁ : α → Act)
    (hassign : ∀ (l : Nat) (x : α) (W : World) (K : Act → World → Prop), K (a₁ x) W →
      assign.wpIn (Fence.wide.inRound l) 7 P (Exit.then K (fun _ _ _ => False)) { tmps := (ps.zip (encs x)).foldl (fun t (p, v) => t.setIfInBounds p v) a.tmps, defers := [] } W)
    (hbody : ∀ (l : Nat) (pre : List α) (x : α) (post : List α) (W : World), xs = pre ++ x :: post → I pre W → w.heap.size + 2 ≤ W.heap.size → body.wpIn (Fence.wide.inRound l) 7 P (roundPost w.heap.size rd I Ix (pre ++ [x]) W) (a₁ x) W)
    (hdone : ∀ (W : World), I xs W → W.heap[w.heap.size]? = some (.deferred (some [])) → Q .normal { a with defers := { target := .collected w.heap.size, args := #[] } :: a.defers } W)
    (hstop : ∀ (c : Code) (pre : List α) (W : World), pre <+: xs → Ix c pre W → W.heap[w.heap.size]? = some (.deferred (some [])) → c.wp P Q { a with defers := { target := .collected w.heap.size, args := #[] } :: a.defers } W) :
    (Code.rangeFunc g ps assign body).wp P Q a w := by
  refine (wpIn_wide (n := 9)).1 (wpIn_rangeFunc ?_)
  intro fn hfn
  obtain ⟨rec, hrec⟩ : ∃ rec : LoopState → Option Code → Loop, rec = fun st pe => { state := st, pending := pe, fn, tmps := a.tmps, params := ps, assign, body, defers := w.heap.size } := ⟨_, rfl⟩
  obtain ⟨W1, hW1⟩ : ∃ W1, (w.alloc (.deferred (some []))).alloc (.loop (rec .ready none)) = W1 := ⟨_, rfl⟩
  have hL1 : W1.heap[w.heap.size + 1]? = some (.loop (rec .ready none)) := by
    rw [← hW1]; have := World.alloc_heap_new (w.alloc (.deferred (some []))) (.loop (rec .ready none)); rwa [World.size_alloc] at this
  have hK1 : W1.heap[w.heap.size]? = some (.deferred (some [])) := by
    rw [← hW1]; exact (Below.heap_alloc _ _ _ (by simp)).trans (World.alloc_heap_new w _)
  have hk1 : Kept (fun _ => False) w W1 := by rw [← hW1]; exact ((Kept.refl _ w).alloc _).alloc _
  have hI1 : I [] W1 := hI _ _ _ h0 (hk1.mono fun _ _ h => h.elim)
  have no : ∀ k, own k → k ≠ w.heap.size ∧ k ≠ w.heap.size + 1 := fun k h => ⟨by have := ho k h; omega, by have := ho k h; omega⟩
  refine ⟨w.heap.size + 1, [{ target := .collected w.heap.size, args := #[] }], W1, { target := .fn (.func gf) lb, args := #[.func (.yield (w.heap.size + 1)) #[] #[]] }, W1, gf,
    #[.func (.yield (w.heap.size + 1)) #[] #[]] ++ lb, W1, ?_, ?_, fun _ _ => trivial, ?_, fun _ => by omega, ?_⟩
  · rw [← hW1, hrec]; exact run_enterLoop_outer _ _ _ _ _
  · simp only [resolve, hg]
    simp [go_sem]
  · simp [invoke, go_sem, eg]
  · refine (hit (w.heap.size + 1)
      (fun pre W => (I pre W ∧ W1.heap.size ≤ W.heap.size) ∧ W.heap[w.heap.size + 1]? = some (.loop (rec .ready none)) ∧ W.heap[w.heap.size]? = some (.deferred (some [])))
      (fun pre W => ∃ c, Ix c pre W ∧ W.heap[w.heap.size + 1]? = some (.loop (rec .done (some c))) ∧ W.heap[w.heap.size]? = some (.deferred (some [])))
      W1 hk1
      (fun pre A B hs hk => ⟨⟨hI _ _ _ hs.1.1 (hk.mono fun _ _ h => .inl h), Nat.le_trans hs.1.2 hk.size⟩, hk.heap hs.2.1 (fun h => (no _ h).2 rfl), hk.heap hs.2.2 (fun h => (no _ h).1 rfl)⟩)
      (fun pre A B hs hk => by
        obtain ⟨c, hc, hl, hd⟩ := hs
        exact ⟨c, hIx _ _ _ _ hc (hk.mono fun _ _ h => .inl h), hk.heap hl (fun h => (no _ h).2 rfl), hk.heap hd (fun h => (no _ h).1 rfl)⟩)
      ?_ ⟨⟨hI1, Nat.le_refl _⟩, hL1, hK1⟩).mono ?_
    · -- one round
      rintro pre x post W hxs ⟨⟨hi, hsz⟩, hl, hk⟩
      have hlt : w.heap.size + 1 < W.heap.size := (Array.getElem?_eq_some_iff.1 hl).1
      have hy := run_yield (P := P) (args := encs x) hl (by rw [hrec]; exact hps x)
      rw [hrec] at hy
      refine ⟨fn, _, assign, body, hy, roundIn_of_wpIn trivial (hassign _ x W _ ⟨_, run_beginRound hl (by rw [hrec]), ?_⟩)⟩
      obtain ⟨W2, hW2⟩ : ∃ W2, W2 = W.putObj (w.heap.size + 1) (.loop { rec .ready none with state := .busy }) := ⟨_, rfl⟩
      rw [← hW2]
      have kp2 : Kept (fun k => k = w.heap.size + 1) W W2 := by rw [hW2]; exact putObj_kept _ _ _
      have hl2 : W2.heap[w.heap.size + 1]? = some (.loop { rec .ready none with state := .busy }) := by rw [hW2]; exact World.putObj_heap_same hlt
      have hk2 : W2.heap[w.heap.size]? = some (.deferred (some [])) := kp2.heap hk (by omega)
      have hs2 : W2.heap.size = W.heap.size := by rw [hW2]; simp [World.putObj]
      refine wpIn_mono (hbody _ pre x post _ hxs (hI _ _ _ hi (kp2.mono fun _ _ h => .inr (.inr h))) (by omega)) ?_
      have fin : ∀ (jump : Option Code) (W3 : World), (∀ k, (k = w.heap.size ∨ k = w.heap.size + 1) → W3.heap[k]? = W2.heap[k]?) →
          (Instr.endRound (w.heap.size + 1) jump).run P W3 = .ok (.bool jump.isNone) (W3.putObj (w.heap.size + 1) (.loop (rec (if jump.isNone then .ready else .done) jump))) ∧
          (W3.putObj (w.heap.size + 1) (.loop (rec (if jump.isNone then .ready else .done) jump))).heap[w.heap.size + 1]? = some (.loop (rec (if jump.isNone then .ready else .done) jump)) ∧
          (W3.putObj (w.heap.size + 1) (.loop (rec (if jump.isNone then .ready else .done) jump))).heap[w.heap.size]? = some (.deferred (some [])) := fun jump W3 hk3 => by
        have hl3 := (hk3 (w.heap.size + 1) (.inr rfl)).trans hl2
        have := run_endRound (P := P) jump hl3
        rw [hrec] at this ⊢
        exact ⟨this, World.putObj_heap_same (Array.getElem?_eq_some_iff.1 hl3).1, (World.putObj_heap_other (by omega)).trans ((hk3 _ (.inl rfl)).trans hk2)⟩
      rintro e a3 W3 hp
      cases e with
      | normal =>
        obtain ⟨⟨hs3, hk3⟩, hi3⟩ := hp
        obtain ⟨hr', hl4, hk4⟩ := fin none W3 (fun k hk => hk3 k (.inr hk))
        refine ⟨_, _, hr', .inl ⟨rfl, ⟨⟨hI _ _ _ hi3 ((putObj_kept _ _ _).mono fun _ _ h => .inr (.inr h)), ?_⟩, hl4, hk4⟩, ?_, fun k hk => ?_⟩⟩
        · simp [World.putObj]; omega
        · simp [World.putObj]; omega
        · have := hr k hk
          rw [World.putObj_heap_other (by omega), hk3 k (.inl hk)]
          exact kp2.block k (by omega) (by omega)
      | ret =>
        obtain ⟨hr', hl4, hk4⟩ := fin (some .ret) W3 hp.1
        exact ⟨_, _, hr', .inr ⟨rfl, .ret, hIx _ _ _ _ hp.2 ((putObj_kept _ _ _).mono fun _ _ h => .inr (.inr h)), hl4, hk4⟩⟩
      | exit id =>
        obtain ⟨hr', hl4, hk4⟩ := fin (some (.exit id)) W3 hp.1
        exact ⟨_, _, hr', .inr ⟨rfl, .exit id, hIx _ _ _ _ hp.2 ((putObj_kept _ _ _).mono fun _ _ h => .inr (.inr h)), hl4, hk4⟩⟩
      | goto t =>
        obtain ⟨hr', hl4, hk4⟩ := fin (some (.goto t)) W3 hp.1
        exact ⟨_, _, hr', .inr ⟨rfl, .goto t, hIx _ _ _ _ hp.2 ((putObj_kept _ _ _).mono fun _ _ h => .inr (.inr h)), hl4, hk4⟩⟩
      | panic ch => exact hp.elim
      | outgrown => exact hp.elim
    · -- behind the iterator
      rintro e W2 ⟨⟨v, rfl⟩, (⟨⟨hi, _⟩, hl, hk⟩ | ⟨pre, hpre, c, hi, hl, hk⟩)⟩
      · exact ⟨none, _, by have := run_endLoop (P := P) hl (by rw [hrec]; simp); rw [hrec] at this; exact this, hdone _ (hI _ _ _ hi ((putObj_kept _ _ _).mono fun _ _ h => .inr (.inr h))) ((World.putObj_heap_other (by omega)).trans hk)⟩
      · exact ⟨some c, _, by have := run_endLoop (P := P) hl (by rw [hrec]; simp); rw [hrec] at this; exact this, wpIn_wide.2 (hstop c pre _ hpre (hIx _ _ _ _ hi ((putObj_kept _ _ _).mono fun _ _ h => .inr (.inr h))) ((World.putObj_heap_other (by omega)).trans hk))⟩

/-- A function's contract from its body, where the body holds a range over a function; the walk is the plain one. -/
theorem calls_of_marks {P : Program} {f : FuncId} {fn : Func} {c : Code} {args : Array Value} {w : World} {R : Ending → World → Prop}
    (hf : P.funcs[f]? = some fn) (hb : fn.body = some c)
    (h : c.wp P (bodyPostM Fence.wide 9 P fn R) { tmps := args ++ Array.replicate (fn.ntmps - args.size) undef, defers := [] } w) : Calls P f args w R :=
  callsIn_wide.1 (callsIn_of_wp_marks (F := Fence.wide) (n := 9) hf hb trivial (wpIn_wide.2 h) rfl)
/-- Leaving such a function: the mark is taken in. -/
theorem leave_mark {P : Program} {fn : Func} {R : Ending → World → Prop} {tmps : Array Value} {W : World} {D : Nat} {v : Value}
    (hK : W.heap[D]? = some (.deferred (some []))) (hv : (results fn tmps).run P (W.putObj D (.deferred none)) = .ok v (W.putObj D (.deferred none))) (hR : R (.returned v) (W.putObj D (.deferred none))) :
    bodyPostM Fence.wide 9 P fn R .ret { tmps := tmps, defers := [{ target := .collected D, args := #[] }] } W :=
  ⟨by simp, .inl ⟨_, _, rfl, run_takeDeferred hK, ⟨v, hv, hR⟩⟩⟩
/-- A result that lies in a cell. -/
theorem results_cell1 {P : Program} {fn : Func} {p : Tmp} {ty : TypeId} (h : fn.results = #[.cell p ty]) (hag : ∀ w, (isAgg ty).run P w = .ok false w) {tmps : Array Value} {a : Addr} (hp : tmps.getD p undef = .pointer (some a)) {w : World} {v : Value} (hc : w.cell? a = some v) :
    (results fn tmps).run P w = .ok v w := by
  have hp' : tmps[p]?.getD undef = .pointer (some a) := by simpa using hp
  simp [results, h, hp', asAddr, loadVar, hag, go_sem, hc]
/-- Leaving a function that holds a range over a function, ahead of it. -/
theorem leave_none {P : Program} {fn : Func} {R : Ending → World → Prop} {tmps : Array Value} {W : World} {v : Value}
    (hv : (results fn tmps).run P W = .ok v W) (hR : R (.returned v) W) :
    bodyPostM Fence.wide 9 P fn R .ret { tmps := tmps, defers := [] } W := ⟨v, hv, hR⟩
theorem leave_none' {P : Program} {fn : Func} {R : Ending → World → Prop} {tmps : Array Value} {W : World} {v : Value}
    (hv : (results fn tmps).run P W = .ok v W) (hR : R (.returned v) W) :
    bodyPostM Fence.wide 9 P fn R .normal { tmps := tmps, defers := [] } W := ⟨v, hv, hR⟩
theorem leave_mark' {P : Program} {fn : Func} {R : Ending → World → Prop} {tmps : Array Value} {W : World} {D : Nat} {v : Value}
    (hK : W.heap[D]? = some (.deferred (some []))) (hv : (results fn tmps).run P (W.putObj D (.deferred none)) = .ok v (W.putObj D (.deferred none))) (hR : R (.returned v) (W.putObj D (.deferred none))) :
    bodyPostM Fence.wide 9 P fn R .normal { tmps := tmps, defers := [{ target := .collected D, args := #[] }] } W :=
  ⟨by simp, .inl ⟨_, _, rfl, run_takeDeferred hK, ⟨v, hv, hR⟩⟩⟩
end Go.Proofs.YtcifhfdjigfeiaaGreatDoor
end

/-! Names: what names.Simple and names.Full answer, for every text. -/
section
set_option linter.unusedVariables false
set_option linter.unusedSimpArgs false
namespace Go.Proofs.YtcifhfdjigfeiaaGreatDoor
open Go.RowKit Go.Shelf
attribute [local go_sem] Oper.semAt_some

theorem ret_int {k : IntKind} {a b : Int} (h : a = b) : Ending.returned (.int k a) = .returned (.int k b) := by rw [h]
theorem ret_bool {a b : Bool} (h : a = b) : Ending.returned (.bool a) = .returned (.bool b) := by rw [h]

def okC (k : Nat) (c : UInt8) : Bool := decide ((97 ≤ c.toNat ∧ c.toNat ≤ 122) ∨ (65 ≤ c.toNat ∧ c.toNat ≤ 90) ∨ c.toNat = 95 ∨ (0 < k ∧ 48 ≤ c.toNat ∧ c.toNat ≤ 57))
def okFrom : Nat → List UInt8 → Bool
  | _, [] => true
  | k, c :: l => okC k c && okFrom (k + 1) l
/-- P3.1: a simple name. -/
def simpleB (l : List UInt8) : Bool := okFrom 0 l && decide (0 < l.length) && decide (l.length ≤ 100)

theorem okFrom_drop (l : List UInt8) : ∀ k j, (h : j < l.length) → okFrom k (l.drop j) = (okC k l[j] && okFrom (k + 1) (l.drop (j + 1))) := by
  intro k j h
  rw [List.drop_eq_getElem_cons h]; rfl

set_option maxHeartbeats 1000000 in
theorem simple_any (s : ByteArray) (w : World) (hs : s.size ≤ 1000000) :
    Calls Tryz.prog 48 #[.string s] w fun e w' => e = .returned (.bool (simpleB s.data.toList)) ∧ w' = w := by
  go_enter Tryz.func48, Tryz.ntmps48
  go_wp2
  go_loop [3, 4, 7, 13] (fun _ _ i _ => ∃ k : Nat, k ≤ s.size ∧ i = .int .i64 k ∧ Hid (okFrom 0 s.data.toList = okFrom k (s.data.toList.drop k))) (fun _ _ i _ => s.size - (intOf i).toNat)
  case atStart => exact ⟨0, Nat.zero_le _, rfl, Lib.hid rfl⟩
  case round =>
    obtain ⟨k, hk, rfl, hO⟩ := hrel
    by_cases hlt : k < s.size
    · have hk9 : (k : Int) < (s.size : Int) := by omega
      have hl : k < s.data.toList.length := by simpa using hlt
      have hd := okFrom_drop s.data.toList k k hl
      have hg : s.data.toList[k]'hl = s[k] := rfl
      rw [hg] at hd
      cases hc : okC k s[k] with
      | true =>
        have hz := of_decide_eq_true hc
        have hO' : Hid (okFrom 0 s.data.toList = okFrom (k + 1) (s.data.toList.drop (k + 1))) := by rw [hO.out, hd, hc]; rfl
        clear hd hc hO hg
        generalize hzz : s[k].toNat = z at hz
        have hz9 : (97 ≤ (z : Int) ∧ (z : Int) ≤ 122) ∨ (65 ≤ (z : Int) ∧ (z : Int) ≤ 90) ∨ (z : Int) = 95 ∨ (0 < (k : Int) ∧ 48 ≤ (z : Int) ∧ (z : Int) ≤ 57) := by omega
        go_wp2
        all_goals
          go_round
          case rel => exact ⟨k + 1, by omega, by go_num, hO'⟩
          case measure => simp [intOf]; omega
      | false =>
        have hz := of_decide_eq_false hc
        have hS : Hid (simpleB s.data.toList = false) := by
          unfold simpleB; rw [hO.out, hd, hc]; rfl
        clear hd hc hO hg
        generalize hzz : s[k].toNat = z at hz
        have hz9 : ¬ ((97 ≤ (z : Int) ∧ (z : Int) ≤ 122) ∨ (65 ≤ (z : Int) ∧ (z : Int) ≤ 90) ∨ (z : Int) = 95 ∨ (0 < (k : Int) ∧ 48 ≤ (z : Int) ∧ (z : Int) ≤ 57)) := by omega
        have hz0 : ((z : Int) == 95) = false := by rw [beq_eq_false_iff_ne]; omega
        go_wp2
        all_goals
          go_ret
          exact ⟨ret_bool hS.out.symm, rfl⟩
    · obtain rfl : k = s.size := by omega
      have hS := Lib.hid (show simpleB s.data.toList = (decide (0 < s.size) && decide (s.size ≤ 100)) by
        unfold simpleB; rw [hO.out, List.drop_of_length_le (by simp)]; simp [okFrom])
      clear hO
      by_cases h1 : 0 < s.size
      · have h9 : (0 : Int) < (s.size : Int) := by omega
        by_cases h2 : s.size ≤ 100
        · have h8 : (s.size : Int) ≤ 100 := by omega
          go_wp2
          go_ret
          exact ⟨ret_bool (by rw [hS.out]; simp [h1, h2]), rfl⟩
        · have h8 : ¬ (s.size : Int) ≤ 100 := by omega
          go_wp2
          go_ret
          exact ⟨ret_bool (by rw [hS.out]; simp [h2]), rfl⟩
      · have h9 : ¬ (0 : Int) < (s.size : Int) := by omega
        go_wp2
        go_ret
        exact ⟨ret_bool (by rw [hS.out]; simp [h1]), rfl⟩

/-! ### Pieces -/
def dot : ByteArray := ⟨#[46]⟩
theorem bindexb_run (s : ByteArray) (c : Int) (w : World) : (callFunc 131 #[.string s, .int .u8 c]).run Tryz.prog w = .ok (.value (.int .i64 (Lib.indexByte s.data.toList c.toNat.toUInt8))) w := by
  rw [run_callFunc_extern Tryz.func131 (by kernel_rfl) (by kernel_rfl) (by kernel_rfl) (e := Extern.BytealgIndexByte.indexByte) (by kernel_rfl), Lib.run_indexByteString]
  rfl
set_option maxHeartbeats 1000000 in
theorem indexb_any (s : ByteArray) (c : Int) (w : World) :
    Calls Tryz.prog 121 #[.string s, .int .u8 c] w fun e w' => e = .returned (.int .i64 (Lib.indexByte s.data.toList c.toNat.toUInt8)) ∧ w' = w := by
  have hr := bindexb_run s c w
  go_enter Tryz.func121, Tryz.ntmps121
  go_wp2
  go_ret
  exact ⟨rfl, rfl⟩
theorem indexb_dot (s : ByteArray) (w : World) :
    Calls Tryz.prog 121 #[.string s, .int .u8 46] w fun e w' => e = .returned (.int .i64 (Lib.indexByte s.data.toList 46)) ∧ w' = w := indexb_any s 46 w

set_option maxRecDepth 100000 in
set_option maxHeartbeats 1000000 in
theorem sindex_dot (s : ByteArray) (w : World) :
    Calls Tryz.prog 105 #[.string s, .string dot] w fun e w' => e = .returned (.int .i64 (Lib.indexByte s.data.toList 46)) ∧ w' = w := by
  unfold dot
  go_enter Tryz.func105, Tryz.ntmps105
  go_wp2_with (go_at_call 121; refine (indexb_dot _ _).mono ?_; rintro e w' ⟨rfl, rfl⟩)
  · have h : ([46] == s.toList) = true := by assumption
    go_ret
    refine ⟨ret_int ?_, rfl⟩
    have e : s.data.toList = [46] := by rw [← Lib.toList_data]; exact (beq_iff_eq.1 h).symm
    rw [e]
    simp [Lib.indexByte]
  · go_ret
    exact ⟨rfl, rfl⟩
set_option maxHeartbeats 1000000 in
theorem index_dot (s : ByteArray) (w : World) :
    Calls Tryz.prog 91 #[.string s, .string dot] w fun e w' => e = .returned (.int .i64 (Lib.indexByte s.data.toList 46)) ∧ w' = w := by
  obtain ⟨d, hd⟩ : ∃ d, d = dot := ⟨_, rfl⟩
  have H := Lib.hid (sindex_dot s w)
  rw [← hd] at H ⊢
  clear hd
  go_enter Tryz.func91, Tryz.ntmps91
  go_wp2_with (go_at_call 105; refine H.out.mono ?_; rintro e w' ⟨rfl, rfl⟩)
  go_ret
  exact ⟨rfl, rfl⟩

def cutP : List UInt8 → List (List UInt8)
  | [] => [[]]
  | c :: l => if c == 46 then [] :: cutP l else match cutP l with | p :: ps => (c :: p) :: ps | [] => [[c]]
theorem cutP_none : ∀ l : List UInt8, Lib.indexByte l 46 = -1 → cutP l = [l] := by
  intro l
  induction l with
  | nil => intro _; rfl
  | cons c l ih =>
    intro h
    unfold Lib.indexByte at h
    split at h
    · omega
    · rename_i hc
      split at h
      · rename_i h1
        rw [cutP, if_neg hc, ih (by simpa using h1)]
      · rename_i h1
        have := Lib.indexByte_ge l 46
        exact absurd (show Lib.indexByte l 46 = -1 by omega) (by simpa using h1)
theorem cutP_some : ∀ (l : List UInt8) (i : Nat), Lib.indexByte l 46 = i → i < l.length ∧ cutP l = l.take i :: cutP (l.drop (i + 1)) := by
  intro l
  induction l with
  | nil => intro i h; simp [Lib.indexByte] at h
  | cons c l ih =>
    intro i h
    unfold Lib.indexByte at h
    split at h
    · rename_i hc
      obtain rfl : i = 0 := by omega
      exact ⟨by simp, by rw [cutP, if_pos hc]; try simp⟩
    · rename_i hc
      split at h
      · omega
      · obtain ⟨j, rfl⟩ : ∃ j, i = j + 1 := ⟨i - 1, by have := Lib.indexByte_ge l 46; rename_i h2; simp at h2; omega⟩
        obtain ⟨h1, h2⟩ := ih j (by omega)
        refine ⟨by simp; omega, ?_⟩
        rw [cutP, if_neg hc, h2]; simp
def mkS (l : List UInt8) : ByteArray := ⟨l.toArray⟩
def pieces (s : ByteArray) : List ByteArray := (cutP s.data.toList).map mkS
theorem pieces_none (s : ByteArray) (h : Lib.indexByte s.data.toList 46 = -1) : pieces s = [s] := by
  unfold pieces; rw [cutP_none _ h]; rfl
theorem pieces_some (s : ByteArray) (i : Nat) (h : Lib.indexByte s.data.toList 46 = i) : i < s.size ∧ pieces s = s.extract 0 i :: pieces (s.extract (i + 1) s.size) := by
  obtain ⟨h1, h2⟩ := cutP_some _ i h
  refine ⟨by simpa using h1, ?_⟩
  unfold pieces
  rw [h2, Lib.extract_to_end]
  simp only [List.map_cons, List.cons.injEq, and_true]
  rw [Lib.extract_eq]; rfl

def strOf : Option Value → Nat
  | some (.string r) => r.size
  | _ => 0
set_option maxRecDepth 100000 in
set_option maxHeartbeats 1000000 in
/-- strings.splitSeq's closure at sep "." and sepSave 0: all pieces, in order. Bs: the box of what is left; Bp: of sep; Bn: of sepSave. -/
theorem split1_iter (Bp Bs Bn : Nat) (s : ByteArray) (hs : s.size ≤ 1000000) (w : World) (hp : Boxed w Bp 9 (.string dot)) (hb : Boxed w Bs 9 (.string s)) (hn : Boxed w Bn 3 (.int .i64 0)) (h1 : Bp ≠ Bs) (h2 : Bn ≠ Bs) :
    Iter Tryz.prog 89 #[.pointer (some ⟨Bp, 0, none⟩), .pointer (some ⟨Bs, 0, none⟩), .pointer (some ⟨Bn, 0, none⟩)] (fun x : ByteArray => #[.string x]) (fun k => k = Bs) (fun k => k = Bs ∨ k = Bp ∨ k = Bn) (pieces s) w := by
  intro l J Jx W hW hJ hJx hY h0
  refine callsIn_of_wp Tryz.func89 rfl trivial ?_ rfl
  have hp' : Boxed W Bp 9 (.string dot) := hW.heap hp (by simp)
  have hb' : Boxed W Bs 9 (.string s) := hW.heap hb (by simp)
  have hn' : Boxed W Bn 3 (.int .i64 0) := hW.heap hn (by simp)
  have hcp := hp'.cell
  have hds : dot.size = 1 := rfl
  have HP := Lib.hid hp'
  have HB := Lib.hid hb'
  have HN := Lib.hid hn'
  clear hp hb hn hp' hb' hn'
  simp only [Tryz.ntmps89, List.size_toArray, List.length_cons, List.length_nil, Nat.reduceAdd, Nat.reduceSub, Array.replicate_succ, Array.replicate_zero, List.push_toArray, List.append_toArray, List.nil_append, List.cons_append]
  gi_wp2
  gi_loopw [7, 8] (fun _ _ wr => ∃ (pre : List ByteArray) (r : ByteArray), Hid (pieces s = pre ++ pieces r) ∧ r.size ≤ s.size ∧ Boxed wr Bs 9 (.string r) ∧ Boxed wr Bp 9 (.string dot) ∧ Boxed wr Bn 3 (.int .i64 0) ∧ J pre wr)
    (fun _ _ wr => strOf (wr.cell? ⟨Bs, 0, none⟩))
  case atStart => exact ⟨[], s, Lib.hid rfl, Nat.le_refl _, HB.out, HP.out, HN.out, h0⟩
  case round =>
    obtain ⟨pre, r, hpr, hrs, hbr, hpp, hnn, hj⟩ := hrel
    have hcs := hbr.cell
    have hcn := hnn.cell
    have hfs := hbr.frozen
    have hcq := hpp.cell
    have HBR := Lib.hid hbr
    have HPP := Lib.hid hpp
    have HNN := Lib.hid hnn
    clear hbr hpp hnn hcp
    have HI := Lib.hid (index_dot r wr)
    have hge := Lib.indexByte_ge r.data.toList 46
    obtain ⟨i, hi⟩ : ∃ i, i = Lib.indexByte r.data.toList 46 := ⟨_, rfl⟩
    rw [← hi] at HI hge
    have hi' := Lib.hid hi
    clear hi
    by_cases hneg : i < 0
    · obtain rfl : i = -1 := by omega
      have hpn := pieces_none r hi'.out.symm
      obtain ⟨fn, tmps, assign, body, hy, hR⟩ := hY pre r [] wr (by rw [hpr.out, hpn]) hj
      have HY := Lib.hid hR
      clear hR hpn
      gi_wp2_with (refine ⟨trivial, ?_⟩; gi_at_call 91; refine (callsIn_wide.2 HI.out).mono ?_; rintro e w' ⟨rfl, rfl⟩)
      refine HY.out.mono ?_
      rintro e W3 (⟨rfl, hJ3, _, hk3⟩ | ⟨rfl, hJx3⟩)
      · gi_wp2
        go_end0
        exact ⟨⟨_, rfl⟩, .inl (by rw [hpr.out, pieces_none r hi'.out.symm]; exact hJ3)⟩
      · gi_wp2
        go_end0
        exact ⟨⟨_, rfl⟩, .inr ⟨_, by rw [hpr.out, pieces_none r hi'.out.symm]; exact List.prefix_refl _, hJx3⟩⟩
    · obtain ⟨j, rfl⟩ : ∃ j : Nat, i = (j : Int) := ⟨i.toNat, by omega⟩
      obtain ⟨hjl, hps⟩ := pieces_some r j hi'.out.symm
      obtain ⟨fn, tmps, assign, body, hy, hR⟩ := hY pre (r.extract 0 j) (pieces (r.extract (j + 1) r.size)) wr (by rw [hpr.out, hps]) hj
      have HY := Lib.hid hR
      have HPS := Lib.hid hps
      have hj9 : (j : Int) ≤ (r.size : Int) := by omega
      have hj8 : (j : Int) + 1 ≤ (r.size : Int) := by omega
      have hrs9 : (r.size : Int) ≤ 1000000 := by omega
      clear hR hps
      gi_wp2_with (refine ⟨trivial, ?_⟩; gi_at_call 91; refine (callsIn_wide.2 HI.out).mono ?_; rintro e w' ⟨rfl, rfl⟩)
      refine HY.out.mono ?_
      rintro e W3 (⟨rfl, hJ3, _, hk3⟩ | ⟨rfl, hJx3⟩)
      · have hb3 : Boxed W3 Bs 9 (.string r) := (hk3 Bs (.inl rfl)).trans HBR.out
        have hp3 : Boxed W3 Bp 9 (.string dot) := (hk3 Bp (.inr (.inl rfl))).trans HPP.out
        have hn3 : Boxed W3 Bn 3 (.int .i64 0) := (hk3 Bn (.inr (.inr rfl))).trans HNN.out
        have hc31 := hb3.cell
        have hc32 := hp3.cell
        have hf3 := hb3.frozen
        have HB3 := Lib.hid hb3
        have HP3 := Lib.hid hp3
        have HN3 := Lib.hid hn3
        have HJ3 := Lib.hid hJ3
        clear hb3 hp3 hn3 hJ3 hk3 hj hcs hcn hfs hcq
        gi_wp2
        go_roundw
        case rel =>
          have hk : Kept (fun k => k = Bs) W3 (W3.setCell ⟨Bs, 0, none⟩ (.string (r.extract (j + 1) r.size))) := (Kept.refl (fun k => k = Bs) W3).setCell (p := ⟨Bs, 0, none⟩) (fun _ => rfl) _
          refine ⟨pre ++ [r.extract 0 j], r.extract (j + 1) r.size, Lib.hid (by rw [hpr.out, HPS.out]; simp), by simp; omega, HB3.out.set _, hk.heap HP3.out h1, hk.heap HN3.out h2, hJ _ _ _ HJ3.out hk⟩
        case measure =>
          rw [(HB3.out.set _).cell]
          simp [strOf, hc31]
          rw [HBR.out.cell]
          simp [strOf]
          omega
      · gi_wp2
        refine bodyPost_ret (results_none rfl _ _ _) rfl ?_
        exact ⟨⟨_, rfl⟩, .inr ⟨_, by rw [hpr.out, HPS.out]; exact ⟨pieces (r.extract (j + 1) r.size), by simp⟩, hJx3⟩⟩

set_option maxHeartbeats 1000000 in
theorem splitSeq0_any (s d : ByteArray) (w : World) :
    Calls Tryz.prog 70 #[.string s, .string d, .int .i64 0] w fun e w' => e = .returned (.func (.func 89) #[] #[.pointer (some ⟨w.heap.size + 1, 0, none⟩), .pointer (some ⟨w.heap.size, 0, none⟩), .pointer (some ⟨w.heap.size + 2, 0, none⟩)]) ∧ w' = ((w.alloc (.cells #[.string s] 9)).alloc (.cells #[.string d] 9)).alloc (.cells #[.int .i64 0] 3) := by
  go_enter Tryz.func70, Tryz.ntmps70
  go_wp2
  go_ret
  exact ⟨rfl, rfl⟩
set_option maxRecDepth 100000 in
set_option maxHeartbeats 1000000 in
theorem splitSeq_any (s d : ByteArray) (w : World) :
    Calls Tryz.prog 47 #[.string s, .string d] w fun e w' => e = .returned (.func (.func 89) #[] #[.pointer (some ⟨w.heap.size + 1, 0, none⟩), .pointer (some ⟨w.heap.size, 0, none⟩), .pointer (some ⟨w.heap.size + 2, 0, none⟩)]) ∧ w' = ((w.alloc (.cells #[.string s] 9)).alloc (.cells #[.string d] 9)).alloc (.cells #[.int .i64 0] 3) := by
  have H := Lib.hid (splitSeq0_any s d w)
  go_enter Tryz.func47, Tryz.ntmps47
  go_wp2_with (go_at_call 70; refine H.out.mono ?_; rintro e w' ⟨rfl, rfl⟩)
  go_ret
  exact ⟨rfl, rfl⟩
/-- P3.1: a full name. -/
def fullB (s : ByteArray) : Bool := decide (s.size ≤ 100) && (pieces s).all fun p => simpleB p.data.toList
theorem pieces_size (s : ByteArray) : ∀ p ∈ pieces s, p.size ≤ s.size := by
  intro p hp
  obtain ⟨l, hl, rfl⟩ := List.mem_map.1 hp
  have : ∀ (m : List UInt8), ∀ l ∈ cutP m, l.length ≤ m.length := by
    intro m
    induction m with
    | nil => intro l hl; simp [cutP] at hl; simp [hl]
    | cons c m ih =>
      intro l hl
      rw [cutP] at hl
      split at hl
      · rcases List.mem_cons.1 hl with rfl | hl
        · simp
        · have := ih l hl; simp; omega
      · split at hl
        · rename_i q qs hq
          rcases List.mem_cons.1 hl with rfl | hl
          · have := ih q (by rw [hq]; exact List.mem_cons_self ..); simp; omega
          · have := ih l (by rw [hq]; exact List.mem_cons_of_mem _ hl); simp; omega
        · simp at hl; simp [hl]
  have h := this _ l hl
  show l.toArray.size ≤ s.data.size
  simpa using h
set_option maxRecDepth 100000 in
set_option maxHeartbeats 1000000 in
theorem full_any (s : ByteArray) (w : World) (hs : s.size ≤ 140737488355328) :
    Calls Tryz.prog 25 #[.string s] w fun e w' => e = .returned (.bool (fullB s)) ∧ Kept (fun _ => False) w w' := by
  refine calls_of_marks Tryz.func25 rfl ?_
  simp only [Tryz.ntmps25, List.size_toArray, List.length_cons, List.length_nil, Nat.reduceAdd, Nat.reduceSub, Array.replicate_succ, Array.replicate_zero, List.push_toArray, List.append_toArray, List.nil_append, List.cons_append]
  by_cases hlen : s.size ≤ 100
  · have h9 : (s.size : Int) ≤ 100 := by omega
    have H := Lib.hid fun w => splitSeq_any s dot w
    go_wp2_with (go_at_call 47; refine (H.out _).mono ?_; rintro e w' ⟨rfl, rfl⟩)
    obtain ⟨W0, hW0⟩ : ∃ W0, W0 = (((w.alloc (.cells #[.bool false] 4)).alloc (.cells #[.string s] 9)).alloc (.cells #[.string dot] 9)).alloc (.cells #[.int .i64 0] 3) := ⟨_, rfl⟩
    rw [← hW0]
    obtain ⟨B, hB⟩ : ∃ B, B = w.heap.size := ⟨_, rfl⟩
    have hsz : W0.heap.size = B + 4 := by rw [hW0, hB]; simp
    have hkp : Kept (fun _ => False) w W0 := by rw [hW0]; exact ((((Kept.refl _ w).alloc _).alloc _).alloc _).alloc _
    have hres : Boxed W0 B 4 (.bool false) := by
      rw [hW0, hB]; exact (((Boxed.new w 4 (.bool false)).alloc _).alloc _).alloc _
    have hbs : Boxed W0 (B + 1) 9 (.string s) := by
      have := ((Boxed.new (w.alloc (.cells #[.bool false] 4)) 9 (.string s)).alloc (.cells #[.string dot] 9)).alloc (.cells #[.int .i64 0] 3)
      rw [hW0, hB]; simpa using this
    have hbp : Boxed W0 (B + 2) 9 (.string dot) := by
      have := (Boxed.new ((w.alloc (.cells #[.bool false] 4)).alloc (.cells #[.string s] 9)) 9 (.string dot)).alloc (.cells #[.int .i64 0] 3)
      rw [hW0, hB]; simpa using this
    have hbn : Boxed W0 (B + 3) 3 (.int .i64 0) := by
      have := Boxed.new (((w.alloc (.cells #[.bool false] 4)).alloc (.cells #[.string s] 9)).alloc (.cells #[.string dot] 9)) 3 (.int .i64 0)
      rw [hW0, hB]; simpa using this
    clear hW0
    rw [← hB]
    have HBw := Lib.hid hB
    clear hB H
    have hit := split1_iter (B + 2) (B + 1) (B + 3) s (by omega) W0 hbp hbs hbn (by omega) (by omega)
    refine wp_range (gf := 89) rfl (enters_of Tryz.func89 (by kernel_rfl) rfl) hit (fun _ => rfl) (fun k h => by omega) (fun k h => by omega)
      (fun pre W => (pre.all (fun p => simpleB p.data.toList)) = true ∧ Boxed W B 4 (.bool false) ∧ Kept (fun _ => False) w W)
      (fun c pre W => c = .ret ∧ fullB s = false ∧ Boxed W B 4 (.bool false) ∧ Kept (fun _ => False) w W)
      (fun pre A C h hk => ⟨h.1, hk.heap h.2.1 (by omega), h.2.2.trans hk (fun i hi h => by have := HBw.out; omega)⟩)
      (fun c pre A C h hk => ⟨h.1, h.2.1, hk.heap h.2.2.1 (by omega), h.2.2.2.trans hk (fun i hi h => by have := HBw.out; omega)⟩)
      ⟨rfl, hres, hkp⟩
      (fun x => { tmps := #[.string s, undef, .pointer (some ⟨B, 0, none⟩), .string x, .string s, .int .i64 s.size, .bool (decide ((100 : Int) < s.size)), .string s, .func (.func 89) #[] #[.pointer (some ⟨B + 1 + 1, 0, none⟩), .pointer (some ⟨B + 1, 0, none⟩), .pointer (some ⟨B + 1 + 2, 0, none⟩)], .string x, undef, undef, undef], defers := [] }) ?assign ?body ?done ?stop
    case assign =>
      intro l x W K hK
      gi_wp2
      exact hK
    case body =>
      rintro l pre x post W hxs ⟨hall, hb, hk⟩ hsz2
      have hxm : x.size ≤ 1000000 := by have := pieces_size s x (by rw [hxs]; simp); omega
      have hc := hb.cell
      have hf := hb.frozen
      have HB := Lib.hid hb
      have HK := Lib.hid hk
      have HX := Lib.hid hxs
      have HA := Lib.hid hall
      clear hb hk hxs hall
      have hlt := (Array.getElem?_eq_some_iff.1 HB.out).1
      cases hsx : simpleB x.data.toList with
      | true =>
        have HS := simple_any x W hxm
        rw [hsx] at HS
        have HS' := Lib.hid HS
        have Hsx := Lib.hid hsx
        clear HS hsx
        gi_wp2_with (refine ⟨trivial, ?_⟩; gi_at_call 48; refine (CallsIn.inRound l (callsIn_wide.2 HS'.out)).mono ?_; rintro e w' ⟨rfl, rfl⟩)
        exact ⟨⟨Nat.le_refl _, fun _ _ => rfl⟩, by rw [List.all_append, HA.out]; simp [Hsx.out], HB.out, HK.out⟩
      | false =>
        have HS := simple_any x W hxm
        rw [hsx] at HS
        have HS' := Lib.hid HS
        have Hsx := Lib.hid hsx
        clear HS hsx
        gi_wp2_with (refine ⟨trivial, ?_⟩; gi_at_call 48; refine (CallsIn.inRound l (callsIn_wide.2 HS'.out)).mono ?_; rintro e w' ⟨rfl, rfl⟩)
        refine ⟨fun k hk => Below.heap_setCell _ _ _ _ (by simp; omega), rfl, ?_, HB.out.set _, HK.out.setCell (p := ⟨B, 0, none⟩) (fun h => by have := HBw.out; simp at h; omega) _⟩
        unfold fullB
        rw [HX.out]; simp [Hsx.out]
    case done =>
      rintro W ⟨hall, hb, hk⟩ hD
      have hc := hb.cell
      have hf := hb.frozen
      have HB := Lib.hid hb
      have HK := Lib.hid hk
      have HD := Lib.hid hD
      have HA := Lib.hid hall
      clear hb hk hD hall
      go_wp2
      have hne : B ≠ W0.heap.size := by omega
      refine leave_mark ((Below.heap_setCell _ _ _ _ (by simp; omega)).trans HD.out) (results_cell1 rfl (fun w => by kernel_rfl) rfl (v := .bool true) ?_) ⟨?_, ?_⟩
      · exact Boxed.cell (show Boxed _ B 4 (.bool true) from (putObj_kept _ W0.heap.size _).heap (HB.out.set (.bool true)) (by omega))
      · unfold fullB; rw [HA.out]; simp [hlen]
      · exact (HK.out.setCell (p := ⟨B, 0, none⟩) (fun h => by have := HBw.out; simp at h; omega) _).putObj (fun h => by have := HBw.out; omega) _
    case stop =>
      rintro c pre W hpre ⟨rfl, hf, hb, hk⟩ hD
      go_wp2
      refine leave_mark hD (results_cell1 rfl (fun w => by kernel_rfl) rfl (v := .bool false) ?_) ⟨by rw [hf], ?_⟩
      · exact Boxed.cell (show Boxed _ B 4 (.bool false) from (putObj_kept _ W0.heap.size _).heap hb (by omega))
      · exact hk.putObj (fun h => by have := HBw.out; omega) _
  · have h9 : ¬ (s.size : Int) ≤ 100 := by omega
    go_wp2
    refine leave_none (results_cell1 rfl (fun w => by kernel_rfl) rfl (v := .bool false) (Boxed.new w 4 (.bool false)).cell) ⟨?_, (Kept.refl _ _).alloc _⟩
    unfold fullB; simp [hlen]
end Go.Proofs.YtcifhfdjigfeiaaGreatDoor
end
