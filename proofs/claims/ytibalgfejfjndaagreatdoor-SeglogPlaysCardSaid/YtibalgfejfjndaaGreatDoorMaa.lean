import Derived.WalkKit
import Derived.RangeFuncNested
import Derived.RangeFuncBound
import Derived.RangeFuncCalls
import Derived.RangeFuncLeaves
import Derived.RangeFuncBox
import Derived.Lib.Hide
import Derived.Deep.Draws
import Derived.Test.YtibalgfejfjndaaGreatDoorProg
import Derived.WalkSpells
import Derived.WalkLawsBesides
import Derived.Lib.Bytealg
import Derived.Lib.IndexBytes
import Derived.Lib.Strings
import Derived.OwnWalkIn
import Derived.TacticsInMore
import Derived.LoopNIn
import Derived.LoopIn
import Derived.Shelf.Abstract
import Derived.Maps.RangeRun
import Derived.Maps.AppendAt
import Derived.Deep.QuietTactic
import Derived.BigQuiet
/-! Laws of this proof's own, over any program: what a call keeps; a range over a function whose iterator may have memory of its own. -/
section
set_option linter.unusedVariables false
set_option linter.unusedSimpArgs false
namespace Go.Proofs.YtibalgfejfjndaaGreatDoor
open Go.RowKit

/-- Of what was there, nothing has turned outside S. -/
structure Kept (S : Nat → Prop) (w w' : World) : Prop where
  os : w'.os = w.os
  tape : w'.tape = w.tape
  output : w'.output = w.output
  size : w.heap.size ≤ w'.heap.size
  block : ∀ k, k < w.heap.size → ¬ S k → w'.heap[k]? = w.heap[k]?
theorem Kept.refl (S : Nat → Prop) (w : World) : Kept S w w := ⟨rfl, rfl, rfl, Nat.le_refl _, fun _ _ _ => rfl⟩
theorem Kept.trans {S T : Nat → Prop} {a b c : World} (h : Kept S a b) (k : Kept T b c) (hT : ∀ i, i < a.heap.size → T i → S i) : Kept S a c :=
  ⟨k.os.trans h.os, k.tape.trans h.tape, k.output.trans h.output, Nat.le_trans h.size k.size, fun i hi hn => (k.block i (Nat.lt_of_lt_of_le hi h.size) (fun ht => hn (hT i hi ht))).trans (h.block i hi hn)⟩
theorem Kept.trans' {S : Nat → Prop} {a b c : World} (h : Kept S a b) (k : Kept S b c) : Kept S a c := h.trans k fun _ _ h => h
theorem Kept.mono {S T : Nat → Prop} {w w' : World} (h : Kept S w w') (hS : ∀ k, k < w.heap.size → S k → T k) : Kept T w w' := ⟨h.os, h.tape, h.output, h.size, fun k hk hn => h.block k hk fun hs => hn (hS k hk hs)⟩
theorem Kept.of_below {B : Nat} {w w' : World} (h : Below B w w') (S : Nat → Prop) (hS : ∀ k, B ≤ k → k < w.heap.size → S k) : Kept S w w' :=
  ⟨h.os, h.tape, h.output, h.size, fun k hk hn => h.block k (by rcases Nat.lt_or_ge k B with h' | h'; exact h'; exact absurd (hS k h' hk) hn)⟩
theorem Kept.below {S : Nat → Prop} {B : Nat} {w w' : World} (h : Kept S w w') (hB : B ≤ w.heap.size) (hS : ∀ k, S k → B ≤ k) : Below B w w' :=
  ⟨h.os, h.tape, h.output, h.size, fun k hk => h.block k (by omega) fun hs => by have := hS k hs; omega⟩
theorem Kept.alloc {S : Nat → Prop} {a w : World} (h : Kept S a w) (o : Obj) : Kept S a (w.alloc o) :=
  ⟨h.os, h.tape, h.output, by simp; have := h.size; omega, fun k hk hn => (Below.heap_alloc w o k (Nat.lt_of_lt_of_le hk h.size)).trans (h.block k hk hn)⟩
theorem Kept.drew {S : Nat → Prop} {a w : World} (h : Kept S a w) : Kept S a w.drew := ⟨h.os, h.tape, h.output, h.size, h.block⟩
theorem Kept.drewN {S : Nat → Prop} {a w : World} (h : Kept S a w) (n : Nat) : Kept S a (w.drewN n) := ⟨h.os, h.tape, h.output, h.size, h.block⟩
theorem Kept.setCell {S : Nat → Prop} {a w : World} (h : Kept S a w) {p : Addr} (hp : p.block < a.heap.size → S p.block) (u : Value) : Kept S a (w.setCell p u) :=
  ⟨h.os, h.tape, h.output, by simp [World.setCell]; exact h.size, fun k hk hn => (Below.heap_setCell w p u k (fun e => hn (by subst e; exact hp hk))).trans (h.block k hk hn)⟩
theorem Kept.putObj {S : Nat → Prop} {a w : World} (h : Kept S a w) {r : Nat} (hr : r < a.heap.size → S r) (o : Obj) : Kept S a (w.putObj r o) :=
  ⟨h.os, h.tape, h.output, by have := h.size; simpa [World.putObj] using this, fun k hk hn => (World.putObj_heap_other (fun e => hn (by subst e; exact hr hk))).trans (h.block k hk hn)⟩
theorem Kept.grown {S : Nat → Prop} {a w w' : World} {row : Option Nat} (h : Kept S a w) (hg : w.grownBy w' row) (hr : ∀ k, row = some k → k < a.heap.size → S k) : Kept S a w' :=
  ⟨hg.os.trans h.os, hg.tape.trans h.tape, hg.output.trans h.output, Nat.le_trans h.size hg.size, fun k hk hn => (hg.block k (Nat.lt_of_lt_of_le hk h.size) (fun e => hn (hr k e.symm hk))).trans (h.block k hk hn)⟩
theorem Kept.cell {S : Nat → Prop} {w w' : World} (h : Kept S w w') {p : Addr} {v : Value} (hc : w.cell? p = some v) (hp : ¬ S p.block) : w'.cell? p = some v :=
  (World.cell?_of_block (w := w) (h.block p.block (World.block_lt_of_cell? w p hc) hp)).trans hc
theorem Kept.heap {S : Nat → Prop} {w w' : World} (h : Kept S w w') {k : Nat} {o : Obj} (hc : w.heap[k]? = some o) (hp : ¬ S k) : w'.heap[k]? = some o :=
  (h.block k (Array.getElem?_eq_some_iff.1 hc).1 hp).trans hc

/-! ### A range over a function -/
/-- The iterator gf (with what it has captured, lb) tells xs, in order, or a part, a round having said 'no more'. It writes blocks of 'own' alone (and new ones); it asks of a round that goes on that the blocks of 'rd' stay. -/
def Iter {α : Type} (P : Program) (gf : Nat) (lb : Array Value) (encs : α → Array Value) (own rd : Nat → Prop) (xs : List α) (w : World) : Prop :=
  ∀ (l : Nat) (J Jx : List α → World → Prop) (W : World), Kept (fun _ => False) w W →
    (∀ pre A B, J pre A → Kept own A B → J pre B) → (∀ pre A B, Jx pre A → Kept own A B → Jx pre B) →
    (∀ pre x post W1, xs = pre ++ x :: post → J pre W1 → YieldAt Fence.wide 7 P l (encs x) W1 fun e W' =>
      (e = .returned (.bool true) ∧ J (pre ++ [x]) W' ∧ W1.heap.size ≤ W'.heap.size ∧ ∀ k, rd k → W'.heap[k]? = W1.heap[k]?) ∨ (e = .returned (.bool false) ∧ Jx (pre ++ [x]) W')) →
    J [] W →
    CallsIn Fence.wide 8 P gf (#[.func (.yield l) #[] #[]] ++ lb) W fun e W' => (∃ v, e = .returned v) ∧ (J xs W' ∨ ∃ pre, pre <+: xs ∧ Jx pre W')

/-- How a round may be left. -/
def roundPost {α : Type} (D : Nat) (rd : Nat → Prop) (I : List α → World → Prop) (Ix : Code → List α → World → Prop) (xs : List α) (W : World) : Exit → Act → World → Prop
  | .normal, _, W' => (W.heap.size ≤ W'.heap.size ∧ ∀ k, (rd k ∨ k = D ∨ k = D + 1) → W'.heap[k]? = W.heap[k]?) ∧ I xs W'
  | .ret, _, W' => (∀ k, (k = D ∨ k = D + 1) → W'.heap[k]? = W.heap[k]?) ∧ Ix .ret xs W'
  | .exit id, _, W' => (∀ k, (k = D ∨ k = D + 1) → W'.heap[k]? = W.heap[k]?) ∧ Ix (.exit id) xs W'
  | .goto t, _, W' => (∀ k, (k = D ∨ k = D + 1) → W'.heap[k]? = W.heap[k]?) ∧ Ix (.goto t) xs W'
  | .panic _, _, _ => False
  | .outgrown, _, _ => False

theorem putObj_kept (W : World) (l : Nat) (o : Obj) : Kept (fun k => k = l) W (W.putObj l o) := (Kept.refl (fun k => k = l) W).putObj (fun _ => rfl) o

/-- The law. D: the block of the rounds' deferred calls; D + 1: the loop's record. -/
theorem wp_range {α : Type} {P : Program} {g : Operand} {ps : Array Tmp} {assign body : Code} {Q : Exit → Act → World → Prop} {a : Act} {w : World}
    {gf : Nat} {lb : Array Value} (hg : a.eval g = .func (.func gf) #[] lb) (eg : ∀ args w, (callFunc gf args).run P w = .ok (.enter gf args) w)
    {encs : α → Array Value} {own rd : Nat → Prop} {xs : List α} (hit : Iter P gf lb encs own rd xs w) (hps : ∀ x, (encs x).size = ps.size)
    (ho : ∀ k, own k → k < w.heap.size) (hr : ∀ k, rd k → k < w.heap.size)
    (I : List α → World → Prop) (Ix : Code → List α → World → Prop)
    (hI : ∀ pre A B, I pre A → Kept (fun k => own k ∨ k = w.heap.size ∨ k = w.heap.size + 1) A B → I pre B)
    (hIx : ∀ c pre A B, Ix c pre A → Kept (fun k => own k ∨ k = w.heap.size ∨ k = w.heap.size + 1) A B → Ix c pre B)
    (h0 : I [] w) (a₁ : α → Act)
    (hassign : ∀ (l : Nat) (x : α) (W : World) (K : Act → World → Prop), K (a₁ x) W →
      assign.wpIn (Fence.wide.inRound l) 7 P (Exit.then K (fun _ _ _ => False)) { tmps := (ps.zip (encs x)).foldl (fun t (p, v) => t.setIfInBounds p v) a.tmps, defers := [] } W)
    (hbody : ∀ (l : Nat) (pre : List α) (x : α) (post : List α) (W : World), xs = pre ++ x :: post → I pre W → w.heap.size + 2 ≤ W.heap.size → body.wpIn (Fence.wide.inRound l) 7 P (roundPost w.heap.size rd I Ix (pre ++ [x]) W) (a₁ x) W)
    (hdone : ∀ (W : World), I xs W → W.heap[w.heap.size]? = some (.deferred (some [])) → Q .normal { a with defers := { target := .collected w.heap.size, args := #[] } :: a.defers } W)
    (hstop : ∀ (c : Code) (pre : List α) (W : World), pre <+: xs → Ix c pre W → W.heap[w.heap.size]? = some (.deferred (some [])) → c.wp P Q { a with defers := { target := .collected w.heap.size, args := #[] } :: a.defers } W) :
    (Code.rangeFunc g ps assign body).wp P Q a w := by
  refine (wpIn_wide (n := 9)).1 (wpIn_rangeFunc ?_)
  intro fn hfn
  obtain ⟨rec, hrec⟩ : ∃ rec : LoopState → Option Code → Loop, rec = fun st pe => { state := st, pending := pe, fn, tmps := a.tmps, params := ps, assign, body, defers := w.heap.size } := ⟨_, rfl⟩
  obtain ⟨W1, hW1⟩ : ∃ W1, (w.alloc (.deferred (some []))).alloc (.loop (rec .ready none)) = W1 := ⟨_, rfl⟩
  have hL1 : W1.heap[w.heap.size + 1]? = some (.loop (rec .ready none)) := by
    rw [← hW1]; have := World.alloc_heap_new (w.alloc (.deferred (some []))) (.loop (rec .ready none)); rwa [World.size_alloc] at this
  have hK1 : W1.heap[w.heap.size]? = some (.deferred (some [])) := by
    rw [← hW1]; exact (Below.heap_alloc _ _ _ (by simp)).trans (World.alloc_heap_new w _)
  have hk1 : Kept (fun _ => False) w W1 := by rw [← hW1]; exact ((Kept.refl _ w).alloc _).alloc _
  have hI1 : I [] W1 := hI _ _ _ h0 (hk1.mono fun _ _ h => h.elim)
  have no : ∀ k, own k → k ≠ w.heap.size ∧ k ≠ w.heap.size + 1 := fun k h => ⟨by have := ho k h; omega, by have := ho k h; omega⟩
  refine ⟨w.heap.size + 1, [{ target := .collected w.heap.size, args := #[] }], W1, { target := .fn (.func gf) lb, args := #[.func (.yield (w.heap.size + 1)) #[] #[]] }, W1, gf,
    #[.func (.yield (w.heap.size + 1)) #[] #[]] ++ lb, W1, ?_, ?_, fun _ _ => trivial, ?_, fun _ => by omega, ?_⟩
  · rw [← hW1, hrec]; exact run_enterLoop_outer _ _ _ _ _
  · simp only [resolve, hg]
    simp [go_sem]
  · simp [invoke, go_sem, eg]
  · refine (hit (w.heap.size + 1)
      (fun pre W => (I pre W ∧ W1.heap.size ≤ W.heap.size) ∧ W.heap[w.heap.size + 1]? = some (.loop (rec .ready none)) ∧ W.heap[w.heap.size]? = some (.deferred (some [])))
      (fun pre W => ∃ c, Ix c pre W ∧ W.heap[w.heap.size + 1]? = some (.loop (rec .done (some c))) ∧ W.heap[w.heap.size]? = some (.deferred (some [])))
      W1 hk1
      (fun pre A B hs hk => ⟨⟨hI _ _ _ hs.1.1 (hk.mono fun _ _ h => .inl h), Nat.le_trans hs.1.2 hk.size⟩, hk.heap hs.2.1 (fun h => (no _ h).2 rfl), hk.heap hs.2.2 (fun h => (no _ h).1 rfl)⟩)
      (fun pre A B hs hk => by
        obtain ⟨c, hc, hl, hd⟩ := hs
        exact ⟨c, hIx _ _ _ _ hc (hk.mono fun _ _ h => .inl h), hk.heap hl (fun h => (no _ h).2 rfl), hk.heap hd (fun h => (no _ h).1 rfl)⟩)
      ?_ ⟨⟨hI1, Nat.le_refl _⟩, hL1, hK1⟩).mono ?_
    · -- one round
      rintro pre x post W hxs ⟨⟨hi, hsz⟩, hl, hk⟩
      have hlt : w.heap.size + 1 < W.heap.size := (Array.getElem?_eq_some_iff.1 hl).1
      have hy := run_yield (P := P) (args := encs x) hl (by rw [hrec]; exact hps x)
      rw [hrec] at hy
      refine ⟨fn, _, assign, body, hy, roundIn_of_wpIn trivial (hassign _ x W _ ⟨_, run_beginRound hl (by rw [hrec]), ?_⟩)⟩
      obtain ⟨W2, hW2⟩ : ∃ W2, W2 = W.putObj (w.heap.size + 1) (.loop { rec .ready none with state := .busy }) := ⟨_, rfl⟩
      rw [← hW2]
      have kp2 : Kept (fun k => k = w.heap.size + 1) W W2 := by rw [hW2]; exact putObj_kept _ _ _
      have hl2 : W2.heap[w.heap.size + 1]? = some (.loop { rec .ready none with state := .busy }) := by rw [hW2]; exact World.putObj_heap_same hlt
      have hk2 : W2.heap[w.heap.size]? = some (.deferred (some [])) := kp2.heap hk (by omega)
      have hs2 : W2.heap.size = W.heap.size := by rw [hW2]; simp [World.putObj]
      refine wpIn_mono (hbody _ pre x post _ hxs (hI _ _ _ hi (kp2.mono fun _ _ h => .inr (.inr h))) (by omega)) ?_
      have fin : ∀ (jump : Option Code) (W3 : World), (∀ k, (k = w.heap.size ∨ k = w.heap.size + 1) → W3.heap[k]? = W2.heap[k]?) →
          (Instr.endRound (w.heap.size + 1) jump).run P W3 = .ok (.bool jump.isNone) (W3.putObj (w.heap.size + 1) (.loop (rec (if jump.isNone then .ready else .done) jump))) ∧
          (W3.putObj (w.heap.size + 1) (.loop (rec (if jump.isNone then .ready else .done) jump))).heap[w.heap.size + 1]? = some (.loop (rec (if jump.isNone then .ready else .done) jump)) ∧
          (W3.putObj (w.heap.size + 1) (.loop (rec (if jump.isNone then .ready else .done) jump))).heap[w.heap.size]? = some (.deferred (some [])) := fun jump W3 hk3 => by
        have hl3 := (hk3 (w.heap.size + 1) (.inr rfl)).trans hl2
        have := run_endRound (P := P) jump hl3
        rw [hrec] at this ⊢
        exact ⟨this, World.putObj_heap_same (Array.getElem?_eq_some_iff.1 hl3).1, (World.putObj_heap_other (by omega)).trans ((hk3 _ (.inl rfl)).trans hk2)⟩
      rintro e a3 W3 hp
      cases e with
      | normal =>
        obtain ⟨⟨hs3, hk3⟩, hi3⟩ := hp
        obtain ⟨hr', hl4, hk4⟩ := fin none W3 (fun k hk => hk3 k (.inr hk))
        refine ⟨_, _, hr', .inl ⟨rfl, ⟨⟨hI _ _ _ hi3 ((putObj_kept _ _ _).mono fun _ _ h => .inr (.inr h)), ?_⟩, hl4, hk4⟩, ?_, fun k hk => ?_⟩⟩
        · simp [World.putObj]; omega
        · simp [World.putObj]; omega
        · have := hr k hk
          rw [World.putObj_heap_other (by omega), hk3 k (.inl hk)]
          exact kp2.block k (by omega) (by omega)
      | ret =>
        obtain ⟨hr', hl4, hk4⟩ := fin (some .ret) W3 hp.1
        exact ⟨_, _, hr', .inr ⟨rfl, .ret, hIx _ _ _ _ hp.2 ((putObj_kept _ _ _).mono fun _ _ h => .inr (.inr h)), hl4, hk4⟩⟩
      | exit id =>
        obtain ⟨hr', hl4, hk4⟩ := fin (some (.exit id)) W3 hp.1
        exact ⟨_, _, hr', .inr ⟨rfl, .exit id, hIx _ _ _ _ hp.2 ((putObj_kept _ _ _).mono fun _ _ h => .inr (.inr h)), hl4, hk4⟩⟩
      | goto t =>
        obtain ⟨hr', hl4, hk4⟩ := fin (some (.goto t)) W3 hp.1
        exact ⟨_, _, hr', .inr ⟨rfl, .goto t, hIx _ _ _ _ hp.2 ((putObj_kept _ _ _).mono fun _ _ h => .inr (.inr h)), hl4, hk4⟩⟩
      | panic ch => exact hp.elim
      | outgrown => exact hp.elim
    · -- behind the iterator
      rintro e W2 ⟨⟨v, rfl⟩, (⟨⟨hi, _⟩, hl, hk⟩ | ⟨pre, hpre, c, hi, hl, hk⟩)⟩
      · exact ⟨none, _, by have := run_endLoop (P := P) hl (by rw [hrec]; simp); rw [hrec] at this; exact this, hdone _ (hI _ _ _ hi ((putObj_kept _ _ _).mono fun _ _ h => .inr (.inr h))) ((World.putObj_heap_other (by omega)).trans hk)⟩
      · exact ⟨some c, _, by have := run_endLoop (P := P) hl (by rw [hrec]; simp); rw [hrec] at this; exact this, wpIn_wide.2 (hstop c pre _ hpre (hIx _ _ _ _ hi ((putObj_kept _ _ _).mono fun _ _ h => .inr (.inr h))) ((World.putObj_heap_other (by omega)).trans hk))⟩

/-- A function's contract from its body, where the body holds a range over a function; the walk is the plain one. -/
theorem calls_of_marks {P : Program} {f : FuncId} {fn : Func} {c : Code} {args : Array Value} {w : World} {R : Ending → World → Prop}
    (hf : P.funcs[f]? = some fn) (hb : fn.body = some c)
    (h : c.wp P (bodyPostM Fence.wide 9 P fn R) { tmps := args ++ Array.replicate (fn.ntmps - args.size) undef, defers := [] } w) : Calls P f args w R :=
  callsIn_wide.1 (callsIn_of_wp_marks (F := Fence.wide) (n := 9) hf hb trivial (wpIn_wide.2 h) rfl)
/-- Leaving such a function: the mark is taken in. -/
theorem leave_mark {P : Program} {fn : Func} {R : Ending → World → Prop} {tmps : Array Value} {W : World} {D : Nat} {v : Value}
    (hK : W.heap[D]? = some (.deferred (some []))) (hv : (results fn tmps).run P (W.putObj D (.deferred none)) = .ok v (W.putObj D (.deferred none))) (hR : R (.returned v) (W.putObj D (.deferred none))) :
    bodyPostM Fence.wide 9 P fn R .ret { tmps := tmps, defers := [{ target := .collected D, args := #[] }] } W :=
  ⟨by simp, .inl ⟨_, _, rfl, run_takeDeferred hK, ⟨v, hv, hR⟩⟩⟩
/-- A result that lies in a cell. -/
theorem results_cell1 {P : Program} {fn : Func} {p : Tmp} {ty : TypeId} (h : fn.results = #[.cell p ty]) (hag : ∀ w, (isAgg ty).run P w = .ok false w) {tmps : Array Value} {a : Addr} (hp : tmps.getD p undef = .pointer (some a)) {w : World} {v : Value} (hc : w.cell? a = some v) :
    (results fn tmps).run P w = .ok v w := by
  have hp' : tmps[p]?.getD undef = .pointer (some a) := by simpa using hp
  simp [results, h, hp', asAddr, loadVar, hag, go_sem, hc]
/-- Leaving a function that holds a range over a function, ahead of it. -/
theorem leave_none {P : Program} {fn : Func} {R : Ending → World → Prop} {tmps : Array Value} {W : World} {v : Value}
    (hv : (results fn tmps).run P W = .ok v W) (hR : R (.returned v) W) :
    bodyPostM Fence.wide 9 P fn R .ret { tmps := tmps, defers := [] } W := ⟨v, hv, hR⟩
theorem leave_none' {P : Program} {fn : Func} {R : Ending → World → Prop} {tmps : Array Value} {W : World} {v : Value}
    (hv : (results fn tmps).run P W = .ok v W) (hR : R (.returned v) W) :
    bodyPostM Fence.wide 9 P fn R .normal { tmps := tmps, defers := [] } W := ⟨v, hv, hR⟩
theorem leave_mark' {P : Program} {fn : Func} {R : Ending → World → Prop} {tmps : Array Value} {W : World} {D : Nat} {v : Value}
    (hK : W.heap[D]? = some (.deferred (some []))) (hv : (results fn tmps).run P (W.putObj D (.deferred none)) = .ok v (W.putObj D (.deferred none))) (hR : R (.returned v) (W.putObj D (.deferred none))) :
    bodyPostM Fence.wide 9 P fn R .normal { tmps := tmps, defers := [{ target := .collected D, args := #[] }] } W :=
  ⟨by simp, .inl ⟨_, _, rfl, run_takeDeferred hK, ⟨v, hv, hR⟩⟩⟩
end Go.Proofs.YtibalgfejfjndaaGreatDoor
end

/-! Names: what names.Simple and names.Full answer, for every text. -/
section
set_option linter.unusedVariables false
set_option linter.unusedSimpArgs false
namespace Go.Proofs.YtibalgfejfjndaaGreatDoor
open Go.RowKit Go.Shelf
attribute [local go_sem] Oper.semAt_some

theorem ret_int {k : IntKind} {a b : Int} (h : a = b) : Ending.returned (.int k a) = .returned (.int k b) := by rw [h]
theorem ret_bool {a b : Bool} (h : a = b) : Ending.returned (.bool a) = .returned (.bool b) := by rw [h]

def okC (k : Nat) (c : UInt8) : Bool := decide ((97 ≤ c.toNat ∧ c.toNat ≤ 122) ∨ (65 ≤ c.toNat ∧ c.toNat ≤ 90) ∨ c.toNat = 95 ∨ (0 < k ∧ 48 ≤ c.toNat ∧ c.toNat ≤ 57))
def okFrom : Nat → List UInt8 → Bool
  | _, [] => true
  | k, c :: l => okC k c && okFrom (k + 1) l
/-- P3.1: a simple name. -/
def simpleB (l : List UInt8) : Bool := okFrom 0 l && decide (0 < l.length) && decide (l.length ≤ 100)

theorem okFrom_drop (l : List UInt8) : ∀ k j, (h : j < l.length) → okFrom k (l.drop j) = (okC k l[j] && okFrom (k + 1) (l.drop (j + 1))) := by
  intro k j h
  rw [List.drop_eq_getElem_cons h]; rfl

set_option maxHeartbeats 1000000 in
theorem simple_any (s : ByteArray) (w : World) (hs : s.size ≤ 1000000) :
    Calls Tryz.prog 34 #[.string s] w fun e w' => e = .returned (.bool (simpleB s.data.toList)) ∧ w' = w := by
  go_enter Tryz.func34, Tryz.ntmps34
  go_wp2
  go_loop [3, 4, 7, 13] (fun _ _ i _ => ∃ k : Nat, k ≤ s.size ∧ i = .int .i64 k ∧ Hid (okFrom 0 s.data.toList = okFrom k (s.data.toList.drop k))) (fun _ _ i _ => s.size - (intOf i).toNat)
  case atStart => exact ⟨0, Nat.zero_le _, rfl, Lib.hid rfl⟩
  case round =>
    obtain ⟨k, hk, rfl, hO⟩ := hrel
    by_cases hlt : k < s.size
    · have hk9 : (k : Int) < (s.size : Int) := by omega
      have hl : k < s.data.toList.length := by simpa using hlt
      have hd := okFrom_drop s.data.toList k k hl
      have hg : s.data.toList[k]'hl = s[k] := rfl
      rw [hg] at hd
      cases hc : okC k s[k] with
      | true =>
        have hz := of_decide_eq_true hc
        have hO' : Hid (okFrom 0 s.data.toList = okFrom (k + 1) (s.data.toList.drop (k + 1))) := by rw [hO.out, hd, hc]; rfl
        clear hd hc hO hg
        generalize hzz : s[k].toNat = z at hz
        have hz9 : (97 ≤ (z : Int) ∧ (z : Int) ≤ 122) ∨ (65 ≤ (z : Int) ∧ (z : Int) ≤ 90) ∨ (z : Int) = 95 ∨ (0 < (k : Int) ∧ 48 ≤ (z : Int) ∧ (z : Int) ≤ 57) := by omega
        go_wp2
        all_goals
          go_round
          case rel => exact ⟨k + 1, by omega, by go_num, hO'⟩
          case measure => simp [intOf]; omega
      | false =>
        have hz := of_decide_eq_false hc
        have hS : Hid (simpleB s.data.toList = false) := by
          unfold simpleB; rw [hO.out, hd, hc]; rfl
        clear hd hc hO hg
        generalize hzz : s[k].toNat = z at hz
        have hz9 : ¬ ((97 ≤ (z : Int) ∧ (z : Int) ≤ 122) ∨ (65 ≤ (z : Int) ∧ (z : Int) ≤ 90) ∨ (z : Int) = 95 ∨ (0 < (k : Int) ∧ 48 ≤ (z : Int) ∧ (z : Int) ≤ 57)) := by omega
        have hz0 : ((z : Int) == 95) = false := by rw [beq_eq_false_iff_ne]; omega
        go_wp2
        all_goals
          go_ret
          exact ⟨ret_bool hS.out.symm, rfl⟩
    · obtain rfl : k = s.size := by omega
      have hS := Lib.hid (show simpleB s.data.toList = (decide (0 < s.size) && decide (s.size ≤ 100)) by
        unfold simpleB; rw [hO.out, List.drop_of_length_le (by simp)]; simp [okFrom])
      clear hO
      by_cases h1 : 0 < s.size
      · have h9 : (0 : Int) < (s.size : Int) := by omega
        by_cases h2 : s.size ≤ 100
        · have h8 : (s.size : Int) ≤ 100 := by omega
          go_wp2
          go_ret
          exact ⟨ret_bool (by rw [hS.out]; simp [h1, h2]), rfl⟩
        · have h8 : ¬ (s.size : Int) ≤ 100 := by omega
          go_wp2
          go_ret
          exact ⟨ret_bool (by rw [hS.out]; simp [h2]), rfl⟩
      · have h9 : ¬ (0 : Int) < (s.size : Int) := by omega
        go_wp2
        go_ret
        exact ⟨ret_bool (by rw [hS.out]; simp [h1]), rfl⟩

/-! ### Pieces -/
def dot : ByteArray := ⟨#[46]⟩
theorem bindexb_run (s : ByteArray) (c : Int) (w : World) : (callFunc 82 #[.string s, .int .u8 c]).run Tryz.prog w = .ok (.value (.int .i64 (Lib.indexByte s.data.toList c.toNat.toUInt8))) w := by
  rw [run_callFunc_extern Tryz.func82 (by kernel_rfl) (by kernel_rfl) (by kernel_rfl) (e := Extern.BytealgIndexByte.indexByte) (by kernel_rfl), Lib.run_indexByteString]
  rfl
set_option maxHeartbeats 1000000 in
theorem indexb_any (s : ByteArray) (c : Int) (w : World) :
    Calls Tryz.prog 63 #[.string s, .int .u8 c] w fun e w' => e = .returned (.int .i64 (Lib.indexByte s.data.toList c.toNat.toUInt8)) ∧ w' = w := by
  have hr := bindexb_run s c w
  go_enter Tryz.func63, Tryz.ntmps63
  go_wp2
  go_ret
  exact ⟨rfl, rfl⟩
theorem indexb_dot (s : ByteArray) (w : World) :
    Calls Tryz.prog 63 #[.string s, .int .u8 46] w fun e w' => e = .returned (.int .i64 (Lib.indexByte s.data.toList 46)) ∧ w' = w := indexb_any s 46 w

set_option maxRecDepth 100000 in
set_option maxHeartbeats 1000000 in
theorem sindex_dot (s : ByteArray) (w : World) :
    Calls Tryz.prog 88 #[.string s, .string dot] w fun e w' => e = .returned (.int .i64 (Lib.indexByte s.data.toList 46)) ∧ w' = w := by
  unfold dot
  go_enter Tryz.func88, Tryz.ntmps88
  go_wp2_with (go_at_call 63; refine (indexb_dot _ _).mono ?_; rintro e w' ⟨rfl, rfl⟩)
  · have h : ([46] == s.toList) = true := by assumption
    go_ret
    refine ⟨ret_int ?_, rfl⟩
    have e : s.data.toList = [46] := by rw [← Lib.toList_data]; exact (beq_iff_eq.1 h).symm
    rw [e]
    simp [Lib.indexByte]
  · go_ret
    exact ⟨rfl, rfl⟩
set_option maxHeartbeats 1000000 in
theorem index_dot (s : ByteArray) (w : World) :
    Calls Tryz.prog 77 #[.string s, .string dot] w fun e w' => e = .returned (.int .i64 (Lib.indexByte s.data.toList 46)) ∧ w' = w := by
  obtain ⟨d, hd⟩ : ∃ d, d = dot := ⟨_, rfl⟩
  have H := Lib.hid (sindex_dot s w)
  rw [← hd] at H ⊢
  clear hd
  go_enter Tryz.func77, Tryz.ntmps77
  go_wp2_with (go_at_call 88; refine H.out.mono ?_; rintro e w' ⟨rfl, rfl⟩)
  go_ret
  exact ⟨rfl, rfl⟩

def cutP : List UInt8 → List (List UInt8)
  | [] => [[]]
  | c :: l => if c == 46 then [] :: cutP l else match cutP l with | p :: ps => (c :: p) :: ps | [] => [[c]]
theorem cutP_none : ∀ l : List UInt8, Lib.indexByte l 46 = -1 → cutP l = [l] := by
  intro l
  induction l with
  | nil => intro _; rfl
  | cons c l ih =>
    intro h
    unfold Lib.indexByte at h
    split at h
    · omega
    · rename_i hc
      split at h
      · rename_i h1
        rw [cutP, if_neg hc, ih (by simpa using h1)]
      · rename_i h1
        have := Lib.indexByte_ge l 46
        exact absurd (show Lib.indexByte l 46 = -1 by omega) (by simpa using h1)
theorem cutP_some : ∀ (l : List UInt8) (i : Nat), Lib.indexByte l 46 = i → i < l.length ∧ cutP l = l.take i :: cutP (l.drop (i + 1)) := by
  intro l
  induction l with
  | nil => intro i h; simp [Lib.indexByte] at h
  | cons c l ih =>
    intro i h
    unfold Lib.indexByte at h
    split at h
    · rename_i hc
      obtain rfl : i = 0 := by omega
      exact ⟨by simp, by rw [cutP, if_pos hc]; try simp⟩
    · rename_i hc
      split at h
      · omega
      · obtain ⟨j, rfl⟩ : ∃ j, i = j + 1 := ⟨i - 1, by have := Lib.indexByte_ge l 46; rename_i h2; simp at h2; omega⟩
        obtain ⟨h1, h2⟩ := ih j (by omega)
        refine ⟨by simp; omega, ?_⟩
        rw [cutP, if_neg hc, h2]; simp
def mkS (l : List UInt8) : ByteArray := ⟨l.toArray⟩
def pieces (s : ByteArray) : List ByteArray := (cutP s.data.toList).map mkS
theorem pieces_none (s : ByteArray) (h : Lib.indexByte s.data.toList 46 = -1) : pieces s = [s] := by
  unfold pieces; rw [cutP_none _ h]; rfl
theorem pieces_some (s : ByteArray) (i : Nat) (h : Lib.indexByte s.data.toList 46 = i) : i < s.size ∧ pieces s = s.extract 0 i :: pieces (s.extract (i + 1) s.size) := by
  obtain ⟨h1, h2⟩ := cutP_some _ i h
  refine ⟨by simpa using h1, ?_⟩
  unfold pieces
  rw [h2, Lib.extract_to_end]
  simp only [List.map_cons, List.cons.injEq, and_true]
  rw [Lib.extract_eq]; rfl

def strOf : Option Value → Nat
  | some (.string r) => r.size
  | _ => 0
set_option maxRecDepth 100000 in
set_option maxHeartbeats 1000000 in
/-- strings.splitSeq's closure at sep "." and sepSave 0: all pieces, in order. Bs: the box of what is left; Bp: of sep; Bn: of sepSave. -/
theorem split1_iter (Bp Bs Bn : Nat) (s : ByteArray) (hs : s.size ≤ 1000000) (w : World) (hp : Boxed w Bp 9 (.string dot)) (hb : Boxed w Bs 9 (.string s)) (hn : Boxed w Bn 3 (.int .i64 0)) (h1 : Bp ≠ Bs) (h2 : Bn ≠ Bs) :
    Iter Tryz.prog 75 #[.pointer (some ⟨Bp, 0, none⟩), .pointer (some ⟨Bs, 0, none⟩), .pointer (some ⟨Bn, 0, none⟩)] (fun x : ByteArray => #[.string x]) (fun k => k = Bs) (fun k => k = Bs ∨ k = Bp ∨ k = Bn) (pieces s) w := by
  intro l J Jx W hW hJ hJx hY h0
  refine callsIn_of_wp Tryz.func75 rfl trivial ?_ rfl
  have hp' : Boxed W Bp 9 (.string dot) := hW.heap hp (by simp)
  have hb' : Boxed W Bs 9 (.string s) := hW.heap hb (by simp)
  have hn' : Boxed W Bn 3 (.int .i64 0) := hW.heap hn (by simp)
  have hcp := hp'.cell
  have hds : dot.size = 1 := rfl
  have HP := Lib.hid hp'
  have HB := Lib.hid hb'
  have HN := Lib.hid hn'
  clear hp hb hn hp' hb' hn'
  simp only [Tryz.ntmps75, List.size_toArray, List.length_cons, List.length_nil, Nat.reduceAdd, Nat.reduceSub, Array.replicate_succ, Array.replicate_zero, List.push_toArray, List.append_toArray, List.nil_append, List.cons_append]
  gi_wp2
  gi_loopw [7, 8] (fun _ _ wr => ∃ (pre : List ByteArray) (r : ByteArray), Hid (pieces s = pre ++ pieces r) ∧ r.size ≤ s.size ∧ Boxed wr Bs 9 (.string r) ∧ Boxed wr Bp 9 (.string dot) ∧ Boxed wr Bn 3 (.int .i64 0) ∧ J pre wr)
    (fun _ _ wr => strOf (wr.cell? ⟨Bs, 0, none⟩))
  case atStart => exact ⟨[], s, Lib.hid rfl, Nat.le_refl _, HB.out, HP.out, HN.out, h0⟩
  case round =>
    obtain ⟨pre, r, hpr, hrs, hbr, hpp, hnn, hj⟩ := hrel
    have hcs := hbr.cell
    have hcn := hnn.cell
    have hfs := hbr.frozen
    have hcq := hpp.cell
    have HBR := Lib.hid hbr
    have HPP := Lib.hid hpp
    have HNN := Lib.hid hnn
    clear hbr hpp hnn hcp
    have HI := Lib.hid (index_dot r wr)
    have hge := Lib.indexByte_ge r.data.toList 46
    obtain ⟨i, hi⟩ : ∃ i, i = Lib.indexByte r.data.toList 46 := ⟨_, rfl⟩
    rw [← hi] at HI hge
    have hi' := Lib.hid hi
    clear hi
    by_cases hneg : i < 0
    · obtain rfl : i = -1 := by omega
      have hpn := pieces_none r hi'.out.symm
      obtain ⟨fn, tmps, assign, body, hy, hR⟩ := hY pre r [] wr (by rw [hpr.out, hpn]) hj
      have HY := Lib.hid hR
      clear hR hpn
      gi_wp2_with (refine ⟨trivial, ?_⟩; gi_at_call 77; refine (callsIn_wide.2 HI.out).mono ?_; rintro e w' ⟨rfl, rfl⟩)
      refine HY.out.mono ?_
      rintro e W3 (⟨rfl, hJ3, _, hk3⟩ | ⟨rfl, hJx3⟩)
      · gi_wp2
        go_end0
        exact ⟨⟨_, rfl⟩, .inl (by rw [hpr.out, pieces_none r hi'.out.symm]; exact hJ3)⟩
      · gi_wp2
        go_end0
        exact ⟨⟨_, rfl⟩, .inr ⟨_, by rw [hpr.out, pieces_none r hi'.out.symm]; exact List.prefix_refl _, hJx3⟩⟩
    · obtain ⟨j, rfl⟩ : ∃ j : Nat, i = (j : Int) := ⟨i.toNat, by omega⟩
      obtain ⟨hjl, hps⟩ := pieces_some r j hi'.out.symm
      obtain ⟨fn, tmps, assign, body, hy, hR⟩ := hY pre (r.extract 0 j) (pieces (r.extract (j + 1) r.size)) wr (by rw [hpr.out, hps]) hj
      have HY := Lib.hid hR
      have HPS := Lib.hid hps
      have hj9 : (j : Int) ≤ (r.size : Int) := by omega
      have hj8 : (j : Int) + 1 ≤ (r.size : Int) := by omega
      have hrs9 : (r.size : Int) ≤ 1000000 := by omega
      clear hR hps
      gi_wp2_with (refine ⟨trivial, ?_⟩; gi_at_call 77; refine (callsIn_wide.2 HI.out).mono ?_; rintro e w' ⟨rfl, rfl⟩)
      refine HY.out.mono ?_
      rintro e W3 (⟨rfl, hJ3, _, hk3⟩ | ⟨rfl, hJx3⟩)
      · have hb3 : Boxed W3 Bs 9 (.string r) := (hk3 Bs (.inl rfl)).trans HBR.out
        have hp3 : Boxed W3 Bp 9 (.string dot) := (hk3 Bp (.inr (.inl rfl))).trans HPP.out
        have hn3 : Boxed W3 Bn 3 (.int .i64 0) := (hk3 Bn (.inr (.inr rfl))).trans HNN.out
        have hc31 := hb3.cell
        have hc32 := hp3.cell
        have hf3 := hb3.frozen
        have HB3 := Lib.hid hb3
        have HP3 := Lib.hid hp3
        have HN3 := Lib.hid hn3
        have HJ3 := Lib.hid hJ3
        clear hb3 hp3 hn3 hJ3 hk3 hj hcs hcn hfs hcq
        gi_wp2
        go_roundw
        case rel =>
          have hk : Kept (fun k => k = Bs) W3 (W3.setCell ⟨Bs, 0, none⟩ (.string (r.extract (j + 1) r.size))) := (Kept.refl (fun k => k = Bs) W3).setCell (p := ⟨Bs, 0, none⟩) (fun _ => rfl) _
          refine ⟨pre ++ [r.extract 0 j], r.extract (j + 1) r.size, Lib.hid (by rw [hpr.out, HPS.out]; simp), by simp; omega, HB3.out.set _, hk.heap HP3.out h1, hk.heap HN3.out h2, hJ _ _ _ HJ3.out hk⟩
        case measure =>
          rw [(HB3.out.set _).cell]
          simp [strOf, hc31]
          rw [HBR.out.cell]
          simp [strOf]
          omega
      · gi_wp2
        refine bodyPost_ret (results_none rfl _ _ _) rfl ?_
        exact ⟨⟨_, rfl⟩, .inr ⟨_, by rw [hpr.out, HPS.out]; exact ⟨pieces (r.extract (j + 1) r.size), by simp⟩, hJx3⟩⟩

set_option maxHeartbeats 1000000 in
theorem splitSeq0_any (s d : ByteArray) (w : World) :
    Calls Tryz.prog 59 #[.string s, .string d, .int .i64 0] w fun e w' => e = .returned (.func (.func 75) #[] #[.pointer (some ⟨w.heap.size + 1, 0, none⟩), .pointer (some ⟨w.heap.size, 0, none⟩), .pointer (some ⟨w.heap.size + 2, 0, none⟩)]) ∧ w' = ((w.alloc (.cells #[.string s] 9)).alloc (.cells #[.string d] 9)).alloc (.cells #[.int .i64 0] 3) := by
  go_enter Tryz.func59, Tryz.ntmps59
  go_wp2
  go_ret
  exact ⟨rfl, rfl⟩
set_option maxRecDepth 100000 in
set_option maxHeartbeats 1000000 in
theorem splitSeq_any (s d : ByteArray) (w : World) :
    Calls Tryz.prog 33 #[.string s, .string d] w fun e w' => e = .returned (.func (.func 75) #[] #[.pointer (some ⟨w.heap.size + 1, 0, none⟩), .pointer (some ⟨w.heap.size, 0, none⟩), .pointer (some ⟨w.heap.size + 2, 0, none⟩)]) ∧ w' = ((w.alloc (.cells #[.string s] 9)).alloc (.cells #[.string d] 9)).alloc (.cells #[.int .i64 0] 3) := by
  have H := Lib.hid (splitSeq0_any s d w)
  go_enter Tryz.func33, Tryz.ntmps33
  go_wp2_with (go_at_call 59; refine H.out.mono ?_; rintro e w' ⟨rfl, rfl⟩)
  go_ret
  exact ⟨rfl, rfl⟩
/-- P3.1: a full name. -/
def fullB (s : ByteArray) : Bool := decide (s.size ≤ 100) && (pieces s).all fun p => simpleB p.data.toList
theorem pieces_size (s : ByteArray) : ∀ p ∈ pieces s, p.size ≤ s.size := by
  intro p hp
  obtain ⟨l, hl, rfl⟩ := List.mem_map.1 hp
  have : ∀ (m : List UInt8), ∀ l ∈ cutP m, l.length ≤ m.length := by
    intro m
    induction m with
    | nil => intro l hl; simp [cutP] at hl; simp [hl]
    | cons c m ih =>
      intro l hl
      rw [cutP] at hl
      split at hl
      · rcases List.mem_cons.1 hl with rfl | hl
        · simp
        · have := ih l hl; simp; omega
      · split at hl
        · rename_i q qs hq
          rcases List.mem_cons.1 hl with rfl | hl
          · have := ih q (by rw [hq]; exact List.mem_cons_self ..); simp; omega
          · have := ih l (by rw [hq]; exact List.mem_cons_of_mem _ hl); simp; omega
        · simp at hl; simp [hl]
  have h := this _ l hl
  show l.toArray.size ≤ s.data.size
  simpa using h
set_option maxRecDepth 100000 in
set_option maxHeartbeats 1000000 in
theorem full_any (s : ByteArray) (w : World) (hs : s.size ≤ 140737488355328) :
    Calls Tryz.prog 9 #[.string s] w fun e w' => e = .returned (.bool (fullB s)) ∧ Kept (fun _ => False) w w' := by
  refine calls_of_marks Tryz.func9 rfl ?_
  simp only [Tryz.ntmps9, List.size_toArray, List.length_cons, List.length_nil, Nat.reduceAdd, Nat.reduceSub, Array.replicate_succ, Array.replicate_zero, List.push_toArray, List.append_toArray, List.nil_append, List.cons_append]
  by_cases hlen : s.size ≤ 100
  · have h9 : (s.size : Int) ≤ 100 := by omega
    have H := Lib.hid fun w => splitSeq_any s dot w
    go_wp2_with (go_at_call 33; refine (H.out _).mono ?_; rintro e w' ⟨rfl, rfl⟩)
    obtain ⟨W0, hW0⟩ : ∃ W0, W0 = (((w.alloc (.cells #[.bool false] 4)).alloc (.cells #[.string s] 9)).alloc (.cells #[.string dot] 9)).alloc (.cells #[.int .i64 0] 3) := ⟨_, rfl⟩
    rw [← hW0]
    obtain ⟨B, hB⟩ : ∃ B, B = w.heap.size := ⟨_, rfl⟩
    have hsz : W0.heap.size = B + 4 := by rw [hW0, hB]; simp
    have hkp : Kept (fun _ => False) w W0 := by rw [hW0]; exact ((((Kept.refl _ w).alloc _).alloc _).alloc _).alloc _
    have hres : Boxed W0 B 4 (.bool false) := by
      rw [hW0, hB]; exact (((Boxed.new w 4 (.bool false)).alloc _).alloc _).alloc _
    have hbs : Boxed W0 (B + 1) 9 (.string s) := by
      have := ((Boxed.new (w.alloc (.cells #[.bool false] 4)) 9 (.string s)).alloc (.cells #[.string dot] 9)).alloc (.cells #[.int .i64 0] 3)
      rw [hW0, hB]; simpa using this
    have hbp : Boxed W0 (B + 2) 9 (.string dot) := by
      have := (Boxed.new ((w.alloc (.cells #[.bool false] 4)).alloc (.cells #[.string s] 9)) 9 (.string dot)).alloc (.cells #[.int .i64 0] 3)
      rw [hW0, hB]; simpa using this
    have hbn : Boxed W0 (B + 3) 3 (.int .i64 0) := by
      have := Boxed.new (((w.alloc (.cells #[.bool false] 4)).alloc (.cells #[.string s] 9)).alloc (.cells #[.string dot] 9)) 3 (.int .i64 0)
      rw [hW0, hB]; simpa using this
    clear hW0
    rw [← hB]
    have HBw := Lib.hid hB
    clear hB H
    have hit := split1_iter (B + 2) (B + 1) (B + 3) s (by omega) W0 hbp hbs hbn (by omega) (by omega)
    refine wp_range (gf := 75) rfl (enters_of Tryz.func75 (by kernel_rfl) rfl) hit (fun _ => rfl) (fun k h => by omega) (fun k h => by omega)
      (fun pre W => (pre.all (fun p => simpleB p.data.toList)) = true ∧ Boxed W B 4 (.bool false) ∧ Kept (fun _ => False) w W)
      (fun c pre W => c = .ret ∧ fullB s = false ∧ Boxed W B 4 (.bool false) ∧ Kept (fun _ => False) w W)
      (fun pre A C h hk => ⟨h.1, hk.heap h.2.1 (by omega), h.2.2.trans hk (fun i hi h => by have := HBw.out; omega)⟩)
      (fun c pre A C h hk => ⟨h.1, h.2.1, hk.heap h.2.2.1 (by omega), h.2.2.2.trans hk (fun i hi h => by have := HBw.out; omega)⟩)
      ⟨rfl, hres, hkp⟩
      (fun x => { tmps := #[.string s, undef, .pointer (some ⟨B, 0, none⟩), .string x, .string s, .int .i64 s.size, .bool (decide ((100 : Int) < s.size)), .string s, .func (.func 75) #[] #[.pointer (some ⟨B + 1 + 1, 0, none⟩), .pointer (some ⟨B + 1, 0, none⟩), .pointer (some ⟨B + 1 + 2, 0, none⟩)], .string x, undef, undef, undef], defers := [] }) ?assign ?body ?done ?stop
    case assign =>
      intro l x W K hK
      gi_wp2
      exact hK
    case body =>
      rintro l pre x post W hxs ⟨hall, hb, hk⟩ hsz2
      have hxm : x.size ≤ 1000000 := by have := pieces_size s x (by rw [hxs]; simp); omega
      have hc := hb.cell
      have hf := hb.frozen
      have HB := Lib.hid hb
      have HK := Lib.hid hk
      have HX := Lib.hid hxs
      have HA := Lib.hid hall
      clear hb hk hxs hall
      have hlt := (Array.getElem?_eq_some_iff.1 HB.out).1
      cases hsx : simpleB x.data.toList with
      | true =>
        have HS := simple_any x W hxm
        rw [hsx] at HS
        have HS' := Lib.hid HS
        have Hsx := Lib.hid hsx
        clear HS hsx
        gi_wp2_with (refine ⟨trivial, ?_⟩; gi_at_call 34; refine (CallsIn.inRound l (callsIn_wide.2 HS'.out)).mono ?_; rintro e w' ⟨rfl, rfl⟩)
        exact ⟨⟨Nat.le_refl _, fun _ _ => rfl⟩, by rw [List.all_append, HA.out]; simp [Hsx.out], HB.out, HK.out⟩
      | false =>
        have HS := simple_any x W hxm
        rw [hsx] at HS
        have HS' := Lib.hid HS
        have Hsx := Lib.hid hsx
        clear HS hsx
        gi_wp2_with (refine ⟨trivial, ?_⟩; gi_at_call 34; refine (CallsIn.inRound l (callsIn_wide.2 HS'.out)).mono ?_; rintro e w' ⟨rfl, rfl⟩)
        refine ⟨fun k hk => Below.heap_setCell _ _ _ _ (by simp; omega), rfl, ?_, HB.out.set _, HK.out.setCell (p := ⟨B, 0, none⟩) (fun h => by have := HBw.out; simp at h; omega) _⟩
        unfold fullB
        rw [HX.out]; simp [Hsx.out]
    case done =>
      rintro W ⟨hall, hb, hk⟩ hD
      have hc := hb.cell
      have hf := hb.frozen
      have HB := Lib.hid hb
      have HK := Lib.hid hk
      have HD := Lib.hid hD
      have HA := Lib.hid hall
      clear hb hk hD hall
      go_wp2
      have hne : B ≠ W0.heap.size := by omega
      refine leave_mark ((Below.heap_setCell _ _ _ _ (by simp; omega)).trans HD.out) (results_cell1 rfl (fun w => by kernel_rfl) rfl (v := .bool true) ?_) ⟨?_, ?_⟩
      · exact Boxed.cell (show Boxed _ B 4 (.bool true) from (putObj_kept _ W0.heap.size _).heap (HB.out.set (.bool true)) (by omega))
      · unfold fullB; rw [HA.out]; simp [hlen]
      · exact (HK.out.setCell (p := ⟨B, 0, none⟩) (fun h => by have := HBw.out; simp at h; omega) _).putObj (fun h => by have := HBw.out; omega) _
    case stop =>
      rintro c pre W hpre ⟨rfl, hf, hb, hk⟩ hD
      go_wp2
      refine leave_mark hD (results_cell1 rfl (fun w => by kernel_rfl) rfl (v := .bool false) ?_) ⟨by rw [hf], ?_⟩
      · exact Boxed.cell (show Boxed _ B 4 (.bool false) from (putObj_kept _ W0.heap.size _).heap hb (by omega))
      · exact hk.putObj (fun h => by have := HBw.out; omega) _
  · have h9 : ¬ (s.size : Int) ≤ 100 := by omega
    go_wp2
    refine leave_none (results_cell1 rfl (fun w => by kernel_rfl) rfl (v := .bool false) (Boxed.new w 4 (.bool false)).cell) ⟨?_, (Kept.refl _ _).alloc _⟩
    unfold fullB; simp [hlen]
end Go.Proofs.YtibalgfejfjndaaGreatDoor
end

/-! How *files.Files lies in memory: its block, its map, each file's block and bytes; how that abides what is written. -/
section
set_option linter.unusedVariables false
set_option linter.unusedSimpArgs false
namespace Go.Proofs.YtibalgfejfjndaaGreatDoor
open Go.RowKit

/-- A byte as a cell. -/
def bv (x : UInt8) : Value := .int .u8 (x.toNat : Int)
/-- What a slice of bytes reads as. -/
def Bs (w : World) (A : Option Addr) (xs : List UInt8) : Prop :=
  (A = none → xs = []) ∧ ∀ ad, A = some ad → ∀ (j : Nat) u, (xs.map bv)[j]? = some u → w.cell? (ad.add j) = some u
theorem Bs.kept {S : Nat → Prop} {w w' : World} {A : Option Addr} {xs : List UInt8} (h : Bs w A xs) (hk : Kept S w w') (hS : ∀ ad, A = some ad → ¬ S ad.block) : Bs w' A xs :=
  ⟨h.1, fun ad e j u hu => hk.cell (h.2 ad e j u hu) (by
    have : (ad.add j).block = ad.block := by unfold Addr.add; split <;> rfl
    rw [this]; exact hS ad e)⟩
theorem Bs.nil (w : World) (A : Option Addr) : Bs w A [] := ⟨fun _ => rfl, fun _ _ j u hu => by simp at hu⟩
theorem bv_one (xs : List UInt8) : ∀ u ∈ xs.map bv, u.oneCell' = true := by simp [bv, Value.oneCell']
theorem Bs.of_own {w : World} {base n : Nat} {v : Value} {xs : List UInt8} (h : w.ownsRow base 5 1 v n (xs.map bv)) : ∃ A c, v = .slice A n c ∧ n = xs.length ∧ Bs w A xs ∧ (A = none → c = 0) ∧ ∀ ad, A = some ad → v.ownBlock = some ad.block := by
  have hn : n = xs.length := by have := h.1; simpa using this.symm
  rcases h.2 with ⟨rfl, h0⟩ | ⟨g, cap, cur, rfl, _, hh, _, _, hc, ht⟩
  · have : xs = [] := List.eq_nil_of_length_eq_zero (by omega)
    exact ⟨none, 0, by rw [h0], hn, by rw [this]; exact Bs.nil _ _, fun _ => rfl, fun ad e => by cases e⟩
  · refine ⟨_, cap, rfl, hn, ⟨fun e => (by cases e), fun ad e j u hu => ?_⟩, fun e => (by cases e), fun ad e => (by cases e; rfl)⟩
    cases e
    rw [← ht] at hu
    have hj := (List.getElem?_eq_some_iff.1 hu).1
    simp at hj
    rw [List.getElem?_take_of_lt (by omega)] at hu
    have e1 : (⟨g, 0, none⟩ : Addr).add j = ⟨g, j, none⟩ := by unfold Addr.add; split <;> simp_all
    rw [e1]
    simp [World.cell?, hh]
    simpa using hu

/-- A file, and where it lies. -/
structure PF where
  name : ByteArray
  b : List UInt8
  safe : Nat
  blk : Nat
  val : Value
  born : Nat
def PF.entry (p : PF) : MapEntry := ⟨.string p.name, .pointer (some ⟨p.blk, 0, none⟩), p.born⟩
def entriesOf (ps : List PF) : Array MapEntry := (ps.map PF.entry).toArray
def PF.blocks (p : PF) : List Nat := p.blk :: p.val.ownBlock.toList
structure PF.At (w : World) (p : PF) : Prop where
  cell : w.heap[p.blk]? = some (.cells #[p.val, .int .i64 p.safe] 89 (0, 0))
  own : w.ownsRow 0 5 1 p.val p.b.length (p.b.map bv)
  safe : p.safe ≤ p.b.length
  len : p.b.length ≤ 4194304
def foot (F M : Nat) (ps : List PF) : List Nat := F :: M :: ps.flatMap PF.blocks
structure FilesAt (w : World) (F M : Nat) (ps : List PF) (clock : Nat) (lim arm : Int) (dn : Bool) : Prop where
  fb : w.heap[F]? = some (.cells #[.map (some M), .int .i64 lim, .int .i64 arm, .bool dn] 45 (0, 0))
  map : w.heap[M]? = some (.map (entriesOf ps) clock)
  at_ : ∀ p ∈ ps, p.At w
  names : (ps.map PF.name).Nodup
  borns : (ps.map PF.born).Nodup
  old : ∀ p ∈ ps, p.born < clock
  sep : (foot F M ps).Nodup
  lim0 : 0 ≤ lim ∧ lim ≤ 4194304
  arm0 : 0 ≤ arm ∧ arm ≤ 9223372036854775807

theorem own_lt' {w : World} {base : Nat} {e : TypeId} {size n : Nat} {v : Value} {xs : List Value} (h : w.ownsRow base e size v n xs) (k : Nat) (hk : v.ownBlock = some k) : k < w.heap.size := by
  rcases h.2 with ⟨rfl, _⟩ | ⟨g, cap, cur, rfl, hb, hh, _⟩
  · simp [Value.ownBlock] at hk
  · have : g = k := by simpa [Value.ownBlock] using hk
    subst this
    exact (Array.getElem?_eq_some_iff.1 hh).1
theorem own_kept {S : Nat → Prop} {w w' : World} {base : Nat} {e : TypeId} {size n : Nat} {v : Value} {xs : List Value} (h : w.ownsRow base e size v n xs) (hk : Kept S w w') (hS : ∀ k, v.ownBlock = some k → ¬ S k) : w'.ownsRow base e size v n xs := by
  refine ⟨h.1, ?_⟩
  rcases h.2 with h' | ⟨g, cap, cur, rfl, hb, hh, r⟩
  · exact .inl h'
  · exact .inr ⟨g, cap, cur, rfl, hb, hk.heap hh (hS g rfl), r⟩
theorem PF.At.kept {S : Nat → Prop} {w w' : World} {p : PF} (h : p.At w) (hk : Kept S w w') (hS : ∀ k ∈ p.blocks, ¬ S k) : p.At w' :=
  ⟨hk.heap h.cell (hS _ (List.mem_cons_self ..)), own_kept h.own hk (fun k e => hS k (List.mem_cons_of_mem _ (by simp [e]))), h.safe, h.len⟩
theorem PF.At.lt {w : World} {p : PF} (h : p.At w) : ∀ k ∈ p.blocks, k < w.heap.size := by
  intro k hk
  rcases List.mem_cons.1 hk with rfl | hk
  · exact (Array.getElem?_eq_some_iff.1 h.cell).1
  · exact own_lt' h.own k (by simpa using hk)
variable {w w' : World} {F M : Nat} {ps l1 l2 : List PF} {p q : PF} {clock : Nat} {lim arm : Int} {dn : Bool}
theorem FilesAt.lt (h : FilesAt w F M ps clock lim arm dn) : ∀ k ∈ foot F M ps, k < w.heap.size := by
  intro k hk
  rcases List.mem_cons.1 hk with rfl | hk
  · exact (Array.getElem?_eq_some_iff.1 h.fb).1
  · rcases List.mem_cons.1 hk with rfl | hk
    · exact (Array.getElem?_eq_some_iff.1 h.map).1
    · obtain ⟨p, hp, hk⟩ := List.mem_flatMap.1 hk
      exact (h.at_ p hp).lt k hk
theorem mem_foot (hp : p ∈ ps) {k : Nat} (hk : k ∈ p.blocks) : k ∈ foot F M ps :=
  List.mem_cons_of_mem _ (List.mem_cons_of_mem _ (List.mem_flatMap.2 ⟨p, hp, hk⟩))
theorem FilesAt.kept {S : Nat → Prop} (h : FilesAt w F M ps clock lim arm dn) (hk : Kept S w w') (hS : ∀ k ∈ foot F M ps, ¬ S k) : FilesAt w' F M ps clock lim arm dn :=
  ⟨hk.heap h.fb (hS _ (by simp [foot])), hk.heap h.map (hS _ (by simp [foot])), fun p hp => (h.at_ p hp).kept hk (fun k hk => hS k (mem_foot hp hk)), h.names, h.borns, h.old, h.sep, h.lim0, h.arm0⟩
theorem FilesAt.ne (h : FilesAt w F M ps clock lim arm dn) : F ≠ M ∧ (∀ p ∈ ps, F ∉ p.blocks ∧ M ∉ p.blocks) := by
  have hs := h.sep
  unfold foot at hs
  rw [List.nodup_cons, List.nodup_cons] at hs
  refine ⟨fun e => hs.1 (by simp [e]), fun p hp => ⟨fun hk => hs.1 (List.mem_cons_of_mem _ (List.mem_flatMap.2 ⟨p, hp, hk⟩)), fun hk => hs.2.1 (List.mem_flatMap.2 ⟨p, hp, hk⟩)⟩⟩
/-- The files' own block turns. -/
theorem FilesAt.own (h : FilesAt w F M ps clock lim arm dn) {lim' arm' : Int} {dn' : Bool} (hk : Kept (fun k => k = F) w w')
    (hb : w'.heap[F]? = some (.cells #[.map (some M), .int .i64 lim', .int .i64 arm', .bool dn'] 45 (0, 0))) (hl : 0 ≤ lim' ∧ lim' ≤ 4194304) (ha : 0 ≤ arm' ∧ arm' ≤ 9223372036854775807) : FilesAt w' F M ps clock lim' arm' dn' :=
  ⟨hb, hk.heap h.map (fun e => h.ne.1 e.symm), fun p hp => (h.at_ p hp).kept hk (fun k hkk e => (h.ne.2 p hp).1 (by subst e; exact hkk)), h.names, h.borns, h.old, h.sep, hl, ha⟩

theorem entriesOf_mid : entriesOf (l1 ++ p :: l2) = entriesOf l1 ++ #[p.entry] ++ entriesOf l2 := by simp [entriesOf]
/-- One file turns. -/
theorem FilesAt.replace (h : FilesAt w F M (l1 ++ p :: l2) clock lim arm dn) (hk : Kept (fun k => k ∈ p.blocks) w w') (hq : q.At w')
    (hn : q.name = p.name) (hb : q.born = p.born) (hblk : q.blk = p.blk) (hv : ∀ k, q.val.ownBlock = some k → p.val.ownBlock = some k ∨ w.heap.size ≤ k) : FilesAt w' F M (l1 ++ q :: l2) clock lim arm dn := by
  have hpm : p ∈ l1 ++ p :: l2 := by simp
  have hsep := h.sep
  have hlt := h.lt
  have hmem : ∀ r ∈ l1 ++ l2, r ∈ l1 ++ p :: l2 := by intro r hr; rcases List.mem_append.1 hr with hr | hr <;> simp [hr]
  have hdis : ∀ r ∈ l1 ++ l2, ∀ k ∈ r.blocks, k ∉ p.blocks := by
    intro r hr k hkr hkp
    simp only [foot, List.flatMap_append, List.flatMap_cons] at hsep
    rw [List.nodup_cons, List.nodup_cons] at hsep
    have h3 := hsep.2.2
    rw [List.nodup_append] at h3
    obtain ⟨_, h4, h5⟩ := h3
    rw [List.nodup_append] at h4
    rcases List.mem_append.1 hr with hr | hr
    · exact h5 k (List.mem_flatMap.2 ⟨r, hr, hkr⟩) k (List.mem_append.2 (.inl hkp)) rfl
    · exact h4.2.2 k hkp k (List.mem_flatMap.2 ⟨r, hr, hkr⟩) rfl
  have hqb : ∀ k ∈ q.blocks, k ∈ p.blocks ∨ w.heap.size ≤ k := by
    intro k hk
    rcases List.mem_cons.1 hk with rfl | hk
    · exact .inl (by rw [hblk]; exact List.mem_cons_self ..)
    · rcases hv k (by simpa using hk) with h' | h'
      · exact .inl (List.mem_cons_of_mem _ (by simp [h']))
      · exact .inr h'
  refine ⟨hk.heap h.fb (h.ne.2 p hpm).1, ?_, ?_, by simpa [hn] using h.names, by simpa [hb] using h.borns, ?_, ?_, h.lim0, h.arm0⟩
  · have := hk.heap h.map (h.ne.2 p hpm).2
    rw [entriesOf_mid] at this ⊢
    rw [show q.entry = p.entry by simp [PF.entry, hn, hb, hblk]]
    exact this
  · intro r hr
    rcases List.mem_append.1 hr with hr' | hr'
    · exact (h.at_ r (by simp [hr'])).kept hk (hdis r (by simp [hr']))
    · rcases List.mem_cons.1 hr' with rfl | hr'
      · exact hq
      · exact (h.at_ r (by simp [hr'])).kept hk (hdis r (by simp [hr']))
  · intro r hr
    rcases List.mem_append.1 hr with hr' | hr'
    · exact h.old r (by simp [hr'])
    · rcases List.mem_cons.1 hr' with rfl | hr'
      · rw [hb]; exact h.old p hpm
      · exact h.old r (by simp [hr'])
  · have hqn : q.blocks.Nodup := by
      unfold PF.blocks
      rw [List.nodup_cons]
      refine ⟨?_, by cases q.val.ownBlock <;> simp⟩
      intro hm
      rcases hv q.blk (by simpa using hm) with h' | h'
      · have hpn : p.blocks.Nodup := by
          simp only [foot, List.flatMap_append, List.flatMap_cons] at hsep
          rw [List.nodup_cons, List.nodup_cons] at hsep
          exact (List.nodup_append.1 (List.nodup_append.1 hsep.2.2).2.1).1
        unfold PF.blocks at hpn
        rw [List.nodup_cons] at hpn
        exact hpn.1 (by rw [← hblk]; simp [h'])
      · have := hlt q.blk (by rw [hblk]; exact mem_foot hpm (List.mem_cons_self ..)); omega
    have notq : ∀ k ∈ foot F M (l1 ++ p :: l2), k ∉ p.blocks → k ∉ q.blocks := by
      intro k hk hkp hkq
      rcases hqb k hkq with h' | h'
      · exact hkp h'
      · have := hlt k hk; omega
    simp only [foot, List.flatMap_append, List.flatMap_cons] at hsep ⊢
    rw [List.nodup_cons, List.nodup_cons] at hsep ⊢
    obtain ⟨s1, s2, s3⟩ := hsep
    rw [List.nodup_append] at s3
    obtain ⟨s4, s5, s6⟩ := s3
    rw [List.nodup_append] at s5
    obtain ⟨s7, s8, s9⟩ := s5
    have inf : ∀ r ∈ l1 ++ l2, ∀ k ∈ r.blocks, k ∉ q.blocks := fun r hr k hkr => notq k (mem_foot (hmem r hr) hkr) (hdis r hr k hkr)
    refine ⟨?_, ?_, ?_⟩
    · intro hm
      simp only [List.mem_cons, List.mem_append] at hm s1
      rcases hm with hm | hm | hm | hm
      · exact s1 (.inl hm)
      · exact s1 (.inr (.inl hm))
      · exact notq F (by simp [foot]) (h.ne.2 p hpm).1 hm
      · exact s1 (.inr (.inr (.inr hm)))
    · intro hm
      simp only [List.mem_append] at hm s2
      rcases hm with hm | hm | hm
      · exact s2 (.inl hm)
      · exact notq M (by simp [foot]) (h.ne.2 p hpm).2 hm
      · exact s2 (.inr (.inr hm))
    · rw [List.nodup_append]
      refine ⟨s4, ?_, ?_⟩
      · rw [List.nodup_append]
        refine ⟨hqn, s8, ?_⟩
        intro a ha b hb e
        subst e
        obtain ⟨r, hr, hkr⟩ := List.mem_flatMap.1 hb
        exact inf r (by simp [hr]) a hkr ha
      · intro a ha b hb e
        subst e
        rcases List.mem_append.1 hb with hb | hb
        · obtain ⟨r, hr, hkr⟩ := List.mem_flatMap.1 ha
          exact inf r (by simp [hr]) a hkr hb
        · exact s6 a ha a (List.mem_append.2 (.inr hb)) rfl
end Go.Proofs.YtibalgfejfjndaaGreatDoor
end

/-! What the map's operations do to *files.Files. -/
section
set_option linter.unusedVariables false
set_option linter.unusedSimpArgs false
namespace Go.Proofs.YtibalgfejfjndaaGreatDoor
open Go.RowKit
open Go.MapKept (bytes_beq run_checkKey run_findKey run_setObj_map)
variable {w w' : World} {F M : Nat} {ps l1 l2 : List PF} {p q : PF} {clock : Nat} {lim arm : Int} {dn : Bool}

/-- A name is not there, or stands once. -/
theorem find_name (ps : List PF) (s : ByteArray) : (∀ p ∈ ps, p.name ≠ s) ∨ ∃ l1 p l2, ps = l1 ++ p :: l2 ∧ p.name = s := by
  by_cases h : ∃ p ∈ ps, p.name = s
  · obtain ⟨p, hp, hn⟩ := h
    obtain ⟨l1, l2, e⟩ := List.append_of_mem hp
    exact .inr ⟨l1, p, l2, e, hn⟩
  · exact .inl fun p hp hn => h ⟨p, hp, hn⟩
theorem findNow_none (s : ByteArray) : ∀ (ps : List PF) (i : Nat), (∀ p ∈ ps, p.name ≠ s) → Instr.findNow .string (.string s) (ps.map PF.entry) i = some none
  | [], _, _ => rfl
  | p :: ps, i, h => by
    have hne : (s == p.name) = false := by
      cases he : s == p.name with
      | false => rfl
      | true => exact absurd ((bytes_beq s p.name).1 he).symm (h p (by simp))
    simp only [List.map_cons, Instr.findNow, PF.entry, Instr.sameNow, hne]
    exact findNow_none s ps (i + 1) fun q hq => h q (by simp [hq])
theorem findNow_mid (s : ByteArray) (p : PF) (hp : p.name = s) (l2 : List PF) : ∀ (l1 : List PF) (i : Nat), (∀ q ∈ l1, q.name ≠ s) → Instr.findNow .string (.string s) ((l1 ++ p :: l2).map PF.entry) i = some (some (i + l1.length, .pointer (some ⟨p.blk, 0, none⟩)))
  | [], i, _ => by
    have he : (s == p.name) = true := (bytes_beq s p.name).2 hp.symm
    simp [Instr.findNow, PF.entry, Instr.sameNow, he]
  | q :: l1, i, h => by
    have hne : (s == q.name) = false := by
      cases he : s == q.name with
      | false => rfl
      | true => exact absurd ((bytes_beq s q.name).1 he).symm (h q (by simp))
    simp only [List.cons_append, List.map_cons, Instr.findNow, PF.entry, Instr.sameNow, hne]
    have := findNow_mid s p hp l2 l1 (i + 1) fun r hr => h r (by simp [hr])
    rw [this]
    simp; omega
theorem names_ne (h : ((l1 ++ p :: l2).map PF.name).Nodup) : (∀ q ∈ l1, q.name ≠ p.name) ∧ ∀ q ∈ l2, q.name ≠ p.name := by
  simp only [List.map_append, List.map_cons] at h
  rw [List.nodup_append] at h
  obtain ⟨_, h2, h3⟩ := h
  rw [List.nodup_cons] at h2
  exact ⟨fun q hq e => h3 q.name (List.mem_map.2 ⟨q, hq, rfl⟩) p.name (by simp) e, fun q hq e => h2.1 (by rw [← e]; exact List.mem_map.2 ⟨q, hq, rfl⟩)⟩

theorem look_none (hM : w.heap[M]? = some (.map (entriesOf ps) clock)) (s : ByteArray) (h : ∀ p ∈ ps, p.name ≠ s) :
    (Instr.lookup 42 (.map (some M)) (.string s) true).run Tryz.prog w = .ok (.tuple #[.pointer none, .bool false]) w := by
  have hz : (zeroValue 84).run Tryz.prog w = .ok (.pointer none) w := by kernel_rfl
  have hf : Instr.findNow .string (.string s) (entriesOf ps).toList 0 = some none := by simpa [entriesOf] using findNow_none s ps 0 h
  simp only [Instr.lookup, Sem.run_bind, run_underlying Tryz.underlying42, Go.MapKept.run_getObj_map hM, Result.andThen, run_checkKey (kt := 9) Tryz.underlying9 (k := .string s) trivial, run_findKey Tryz.underlying9 hf, hz, Sem.run_pure, if_true]
theorem look_some (hM : w.heap[M]? = some (.map (entriesOf (l1 ++ p :: l2)) clock)) (hn : ∀ q ∈ l1, q.name ≠ p.name) (ok : Bool) :
    (Instr.lookup 42 (.map (some M)) (.string p.name) ok).run Tryz.prog w = .ok (if ok then .tuple #[.pointer (some ⟨p.blk, 0, none⟩), .bool true] else .pointer (some ⟨p.blk, 0, none⟩)) w := by
  have hf : Instr.findNow .string (.string p.name) (entriesOf (l1 ++ p :: l2)).toList 0 = some (some (0 + l1.length, .pointer (some ⟨p.blk, 0, none⟩))) := by simpa [entriesOf] using findNow_mid p.name p rfl l2 l1 0 hn
  simp only [Instr.lookup, Sem.run_bind, run_underlying Tryz.underlying42, Go.MapKept.run_getObj_map hM, Result.andThen, run_checkKey (kt := 9) Tryz.underlying9 (k := .string p.name) trivial, run_findKey Tryz.underlying9 hf, Sem.run_pure]
theorem upd_none (hM : w.heap[M]? = some (.map (entriesOf ps) clock)) (s : ByteArray) (v : Value) (h : ∀ p ∈ ps, p.name ≠ s) :
    (Instr.mapUpdate 42 (.map (some M)) (.string s) v).run Tryz.prog w = .ok () (w.putObj M (.map ((entriesOf ps).push { key := .string s, val := v, born := clock }) (clock + 1))) := by
  have hf : Instr.findNow .string (.string s) (entriesOf ps).toList 0 = some none := by simpa [entriesOf] using findNow_none s ps 0 h
  simp only [Instr.mapUpdate, Sem.run_bind, run_underlying Tryz.underlying42, Go.MapKept.run_getObj_map hM, Result.andThen, run_checkKey (kt := 9) Tryz.underlying9 (k := .string s) trivial, run_findKey Tryz.underlying9 hf, run_setObj_map _ hM]
  rfl
theorem modify_mid {α : Type} (f : α → α) (a : α) (l2 : List α) : ∀ (l1 : List α), (l1 ++ a :: l2).modify l1.length f = l1 ++ f a :: l2
  | [] => by simp
  | b :: l1 => by simp [modify_mid f a l2 l1]
theorem entriesOf_get : (entriesOf (l1 ++ p :: l2))[l1.length]? = some p.entry := by simp [entriesOf]
theorem stays (s : ByteArray) (w : World) : (Instr.keyThatStays (.string s) (.string s)).run Tryz.prog w = .ok (.string s) w := by
  have hs : Instr.sameBits 10000 (.string s) (.string s) = true := by
    show (s == s) = true
    exact (bytes_beq _ _).2 rfl
  unfold Instr.keyThatStays; rw [if_pos hs]; rfl
theorem upd_some (hM : w.heap[M]? = some (.map (entriesOf (l1 ++ p :: l2)) clock)) (hn : ∀ q ∈ l1, q.name ≠ p.name) (blk : Nat) :
    (Instr.mapUpdate 42 (.map (some M)) (.string p.name) (.pointer (some ⟨blk, 0, none⟩))).run Tryz.prog w = .ok () (w.putObj M (.map (entriesOf (l1 ++ { p with blk := blk } :: l2)) clock)) := by
  have hf : Instr.findNow .string (.string p.name) (entriesOf (l1 ++ p :: l2)).toList 0 = some (some (0 + l1.length, .pointer (some ⟨p.blk, 0, none⟩))) := by simpa [entriesOf] using findNow_mid p.name p rfl l2 l1 0 hn
  have hk := stays p.name w
  have he : (entriesOf (l1 ++ p :: l2)).modify (0 + l1.length) (fun e => { e with key := .string p.name, val := .pointer (some ⟨blk, 0, none⟩) }) = entriesOf (l1 ++ { p with blk := blk } :: l2) := by
    apply Array.ext'
    have := modify_mid (fun e : MapEntry => { e with key := .string p.name, val := .pointer (some ⟨blk, 0, none⟩) }) p.entry (l2.map PF.entry) (l1.map PF.entry)
    simp only [List.length_map] at this
    simpa [entriesOf, PF.entry] using this
  simp only [Instr.mapUpdate, Sem.run_bind, run_underlying Tryz.underlying42, Go.MapKept.run_getObj_map hM, Result.andThen, run_checkKey (kt := 9) Tryz.underlying9 (k := .string p.name) trivial, run_findKey Tryz.underlying9 hf]
  have hg : (((entriesOf (l1 ++ p :: l2))[0 + l1.length]?).map (·.key)).getD (.string p.name) = .string p.name := by
    rw [Nat.zero_add, entriesOf_get]; rfl
  rw [hg]
  simp only [Sem.run_bind, hk, Result.andThen, run_setObj_map _ hM, he, World.putObj]
theorem del_some (hM : w.heap[M]? = some (.map (entriesOf (l1 ++ p :: l2)) clock)) (hn : ∀ q ∈ l1, q.name ≠ p.name) (ty : TypeId) :
    (Builtin.delete_ #[42, 9] ty #[.map (some M), .string p.name]).run Tryz.prog w = .ok (.tuple #[]) (w.putObj M (.map (entriesOf (l1 ++ l2)) clock)) := by
  have hf : Instr.findNow .string (.string p.name) (entriesOf (l1 ++ p :: l2)).toList 0 = some (some (0 + l1.length, .pointer (some ⟨p.blk, 0, none⟩))) := by simpa [entriesOf] using findNow_mid p.name p rfl l2 l1 0 hn
  have he : (entriesOf (l1 ++ p :: l2)).eraseIdxIfInBounds (0 + l1.length) = entriesOf (l1 ++ l2) := by
    have hlt : l1.length < (entriesOf (l1 ++ p :: l2)).size := by simp [entriesOf]
    unfold Array.eraseIdxIfInBounds
    rw [Nat.zero_add, dif_pos hlt]
    apply Array.ext'
    simp [entriesOf, List.eraseIdx_append_of_length_le]
  simp [Builtin.delete_, run_underlying Tryz.underlying42, Go.MapKept.run_getObj_map hM, Result.andThen, run_checkKey (kt := 9) Tryz.underlying9 (k := .string p.name) trivial, run_findKey Tryz.underlying9 hf, run_setObj_map _ hM, World.putObj]
  rw [Nat.zero_add] at he
  rw [he]
/-- No such file: delete changes nothing (it is stored as it was). -/
theorem foot_append : foot F M (l1 ++ l2) = F :: M :: (l1.flatMap PF.blocks ++ l2.flatMap PF.blocks) := by simp [foot]
/-- A new file. -/
theorem FilesAt.insert (h : FilesAt w F M ps clock lim arm dn) (hk : Kept (fun k => k = M) w w')
    (hm : w'.heap[M]? = some (.map ((entriesOf ps).push p.entry) (clock + 1))) (hb : p.born = clock) (hp : p.At w') (hn : ∀ q ∈ ps, q.name ≠ p.name)
    (hd : ∀ k ∈ p.blocks, k ∉ foot F M ps) (hnd : p.blocks.Nodup) : FilesAt w' F M (ps ++ [p]) (clock + 1) lim arm dn := by
  refine ⟨hk.heap h.fb (fun e => h.ne.1 e), by rw [hm]; simp [entriesOf], ?_, ?_, ?_, ?_, ?_, h.lim0, h.arm0⟩
  · intro r hr
    rcases List.mem_append.1 hr with hr | hr
    · exact (h.at_ r hr).kept hk (fun k hkk e => (h.ne.2 r hr).2 (by subst e; exact hkk))
    · simp at hr; subst hr; exact hp
  · rw [List.map_append, List.nodup_append]
    refine ⟨h.names, by simp, ?_⟩
    intro a ha b hb e
    obtain ⟨q, hq, rfl⟩ := List.mem_map.1 ha
    simp at hb; subst hb
    exact hn q hq e
  · rw [List.map_append, List.nodup_append]
    refine ⟨h.borns, by simp, ?_⟩
    intro a ha b hb' e
    obtain ⟨q, hq, rfl⟩ := List.mem_map.1 ha
    simp at hb'; subst hb'
    have := h.old q hq; omega
  · intro r hr
    rcases List.mem_append.1 hr with hr | hr
    · have := h.old r hr; omega
    · simp at hr; subst hr; omega
  · have hs := h.sep
    have e1 : foot F M (ps ++ [p]) = foot F M ps ++ p.blocks := by simp [foot]
    rw [e1, List.nodup_append]
    exact ⟨hs, hnd, fun a ha b hb e => hd b hb (by subst e; exact ha)⟩
/-- A file goes. -/
theorem FilesAt.erase (h : FilesAt w F M (l1 ++ p :: l2) clock lim arm dn) (hk : Kept (fun k => k = M) w w')
    (hm : w'.heap[M]? = some (.map (entriesOf (l1 ++ l2)) clock)) : FilesAt w' F M (l1 ++ l2) clock lim arm dn := by
  have hmem : ∀ r ∈ l1 ++ l2, r ∈ l1 ++ p :: l2 := by intro r hr; rcases List.mem_append.1 hr with hr | hr <;> simp [hr]
  have hsub : (l1 ++ l2).Sublist (l1 ++ p :: l2) := List.Sublist.append (List.Sublist.refl _) (List.sublist_cons_self ..)
  refine ⟨hk.heap h.fb (fun e => h.ne.1 e), hm, ?_, (hsub.map _).nodup h.names, (hsub.map _).nodup h.borns, fun r hr => h.old r (hmem r hr), ?_, h.lim0, h.arm0⟩
  · intro r hr
    exact (h.at_ r (hmem r hr)).kept hk (fun k hkk e => (h.ne.2 r (hmem r hr)).2 (by subst e; exact hkk))
  · refine List.Sublist.nodup ?_ h.sep
    simp only [foot, List.flatMap_append, List.flatMap_cons]
    exact List.Sublist.cons_cons _ (List.Sublist.cons_cons _ (List.Sublist.append (List.Sublist.refl _) (List.sublist_append_right ..)))
/-- An entry comes to lead to a file that no other one leads to. -/
theorem FilesAt.point (h : FilesAt w F M (l1 ++ q :: l2) clock lim arm dn) (hk : Kept (fun k => k = M) w w') (hpn : p.name = q.name) (hpb : p.born = q.born)
    (hm : w'.heap[M]? = some (.map (entriesOf (l1 ++ p :: l2)) clock)) (hp : p.At w')
    (hd : ∀ k ∈ p.blocks, k ∉ foot F M (l1 ++ q :: l2)) (hnd : p.blocks.Nodup) : FilesAt w' F M (l1 ++ p :: l2) clock lim arm dn := by
  refine ⟨hk.heap h.fb (fun e => h.ne.1 e), hm, ?_, by simpa [hpn] using h.names, by simpa [hpb] using h.borns, ?_, ?_, h.lim0, h.arm0⟩
  · intro r hr
    rcases List.mem_append.1 hr with hr' | hr'
    · exact (h.at_ r (by simp [hr'])).kept hk (fun k hkk e => (h.ne.2 r (by simp [hr'])).2 (by subst e; exact hkk))
    · rcases List.mem_cons.1 hr' with rfl | hr'
      · exact hp
      · exact (h.at_ r (by simp [hr'])).kept hk (fun k hkk e => (h.ne.2 r (by simp [hr'])).2 (by subst e; exact hkk))
  · intro r hr
    rcases List.mem_append.1 hr with hr' | hr'
    · exact h.old r (by simp [hr'])
    · rcases List.mem_cons.1 hr' with rfl | hr'
      · rw [hpb]; exact h.old q (by simp)
      · exact h.old r (by simp [hr'])
  · have hs := h.sep
    have hd' := hd
    simp only [foot, List.flatMap_append, List.flatMap_cons] at hs hd ⊢
    rw [List.nodup_cons, List.nodup_cons] at hs ⊢
    obtain ⟨s1, s2, s3⟩ := hs
    rw [List.nodup_append] at s3
    obtain ⟨s4, s5, s6⟩ := s3
    rw [List.nodup_append] at s5
    obtain ⟨s7, s8, s9⟩ := s5
    simp only [List.mem_cons, List.mem_append] at s1 s2 hd
    refine ⟨?_, ?_, ?_⟩
    · simp only [List.mem_cons, List.mem_append]
      rintro (e | e | e | e)
      · exact s1 (.inl e)
      · exact s1 (.inr (.inl e))
      · exact hd F e (.inl rfl)
      · exact s1 (.inr (.inr (.inr e)))
    · simp only [List.mem_append]
      rintro (e | e | e)
      · exact s2 (.inl e)
      · exact hd M e (.inr (.inl rfl))
      · exact s2 (.inr (.inr e))
    · rw [List.nodup_append]
      refine ⟨s4, ?_, ?_⟩
      · rw [List.nodup_append]
        exact ⟨hnd, s8, fun a ha b hb e => hd a ha (by subst e; exact .inr (.inr (.inr (.inr hb))))⟩
      · intro a ha b hb e
        subst e
        rcases List.mem_append.1 hb with hb | hb
        · exact hd a hb (.inr (.inr (.inl ha)))
        · exact s6 a ha a (List.mem_append.2 (.inr hb)) rfl
end Go.Proofs.YtibalgfejfjndaaGreatDoor
end

/-! The small functions of package files: bound, ready, hit, there, Arm, Limit, Down, Used, Clone. -/
section
set_option linter.unusedVariables false
set_option linter.unusedSimpArgs false
namespace Go.Proofs.YtibalgfejfjndaaGreatDoor
open Go.RowKit

/-- The block of the files' own fields. -/
def FB (w : World) (F M : Nat) (lim arm : Int) (dn : Bool) : Prop := w.heap[F]? = some (.cells #[.map (some M), .int .i64 lim, .int .i64 arm, .bool dn] 45 (0, 0))
theorem FB.c0 {w : World} {F M : Nat} {lim arm : Int} {dn : Bool} (h : FB w F M lim arm dn) : w.cell? ⟨F, 0, none⟩ = some (.map (some M)) := by simp [World.cell?, show w.heap[F]? = _ from h]
theorem FB.c1 {w : World} {F M : Nat} {lim arm : Int} {dn : Bool} (h : FB w F M lim arm dn) : w.cell? ⟨F, 1, none⟩ = some (.int .i64 lim) := by simp [World.cell?, show w.heap[F]? = _ from h]
theorem FB.c2 {w : World} {F M : Nat} {lim arm : Int} {dn : Bool} (h : FB w F M lim arm dn) : w.cell? ⟨F, 2, none⟩ = some (.int .i64 arm) := by simp [World.cell?, show w.heap[F]? = _ from h]
theorem FB.c3 {w : World} {F M : Nat} {lim arm : Int} {dn : Bool} (h : FB w F M lim arm dn) : w.cell? ⟨F, 3, none⟩ = some (.bool dn) := by simp [World.cell?, show w.heap[F]? = _ from h]
theorem FB.fz {w : World} {F M : Nat} {lim arm : Int} {dn : Bool} (h : FB w F M lim arm dn) (i : Nat) : w.frozen? ⟨F, i, none⟩ = false := by simp [World.frozen?, show w.heap[F]? = _ from h]
theorem FB.s1 {w : World} {F M : Nat} {lim arm : Int} {dn : Bool} (h : FB w F M lim arm dn) (v : Int) : FB (w.setCell ⟨F, 1, none⟩ (.int .i64 v)) F M v arm dn := by
  unfold FB World.setCell; simp only [Array.getElem?_modify, if_true, show w.heap[F]? = _ from h]; rfl
theorem FB.s2 {w : World} {F M : Nat} {lim arm : Int} {dn : Bool} (h : FB w F M lim arm dn) (v : Int) : FB (w.setCell ⟨F, 2, none⟩ (.int .i64 v)) F M lim v dn := by
  unfold FB World.setCell; simp only [Array.getElem?_modify, if_true, show w.heap[F]? = _ from h]; rfl
theorem FB.s3 {w : World} {F M : Nat} {lim arm : Int} {dn : Bool} (h : FB w F M lim arm dn) (v : Bool) : FB (w.setCell ⟨F, 3, none⟩ (.bool v)) F M lim arm v := by
  unfold FB World.setCell; simp only [Array.getElem?_modify, if_true, show w.heap[F]? = _ from h]; rfl
theorem kF (w : World) (F i : Nat) (v : Value) : Kept (fun k => k = F) w (w.setCell ⟨F, i, none⟩ v) := (Kept.refl (fun k => k = F) w).setCell (p := ⟨F, i, none⟩) (fun _ => rfl) v

def boundI (n : Int) : Int := if n ≤ 0 then 0 else if 4194304 ≤ n then 4194304 else n
theorem boundI_r (n : Int) : 0 ≤ boundI n ∧ boundI n ≤ 4194304 := by unfold boundI; split <;> (try split) <;> omega
set_option maxHeartbeats 400000 in
theorem bound_any (n : Int) (w : World) : Calls Tryz.prog 8 #[.int .i64 n] w fun e w' => e = .returned (.int .i64 (boundI n)) ∧ w = w' := by
  by_cases h2 : 4194304 < n
  · have HB := Lib.hid (show boundI n = 4194304 by unfold boundI; rw [if_neg (by omega), if_pos (by omega)])
    go_enter Tryz.func8, Tryz.ntmps8
    go_wp2
    go_ret
    exact ⟨ret_int HB.out.symm, rfl⟩
  · have h2' : n ≤ 4194304 := by omega
    by_cases h1 : n ≤ 0
    · have HB := Lib.hid (show boundI n = 0 by unfold boundI; rw [if_pos h1])
      go_enter Tryz.func8, Tryz.ntmps8
      go_wp2
      go_ret
      exact ⟨ret_int HB.out.symm, rfl⟩
    · have h1' : 0 < n := by omega
      have HB := Lib.hid (show boundI n = n by unfold boundI; rw [if_neg h1]; split <;> omega)
      go_enter Tryz.func8, Tryz.ntmps8
      go_wp2
      go_ret
      exact ⟨ret_int HB.out.symm, rfl⟩

set_option maxHeartbeats 400000 in
theorem ready_nil (w : World) : Calls Tryz.prog 64 #[.pointer none] w fun e w' => e = .returned (.int .i64 2) ∧ w = w' := by
  go_enter Tryz.func64, Tryz.ntmps64
  go_wp2
  go_ret
  exact ⟨rfl, rfl⟩
def rdy (dn : Bool) : Int := if dn then 13 else 0
set_option maxHeartbeats 400000 in
theorem ready_any (w : World) (F M : Nat) (lim arm : Int) (dn : Bool) (h : FB w F M lim arm dn) : Calls Tryz.prog 64 #[.pointer (some ⟨F, 0, none⟩)] w fun e w' => e = .returned (.int .i64 (rdy dn)) ∧ w = w' := by
  have h3 := h.c3
  clear h
  cases dn
  · go_enter Tryz.func64, Tryz.ntmps64
    go_wp2
    go_ret
    exact ⟨rfl, rfl⟩
  · go_enter Tryz.func64, Tryz.ntmps64
    go_wp2
    go_ret
    exact ⟨rfl, rfl⟩
def decA (arm : Int) : Int := if arm = 0 then 0 else arm - 1
theorem decA_r {arm : Int} (h : 0 ≤ arm ∧ arm ≤ 9223372036854775807) : 0 ≤ decA arm ∧ decA arm ≤ 9223372036854775807 := by unfold decA; split <;> omega
def HitPost (w : World) (F M : Nat) (lim arm : Int) (e : Ending) (w' : World) : Prop :=
  e = .returned (.bool (decide (arm = 1))) ∧ FB w' F M lim (decA arm) (decide (arm = 1)) ∧ Kept (fun k => k = F) w w'
set_option maxHeartbeats 400000 in
theorem hit_any (w : World) (F M : Nat) (lim arm : Int) (h : FB w F M lim arm false) (ha : 0 ≤ arm ∧ arm ≤ 9223372036854775807) : Calls Tryz.prog 41 #[.pointer (some ⟨F, 0, none⟩)] w (HitPost w F M lim arm) := by
  obtain ⟨ha0, ha1⟩ := ha
  have H := Lib.hid h
  by_cases h0 : arm = 0
  · subst h0
    have h2 := h.c2
    clear h
    go_enter Tryz.func41, Tryz.ntmps41
    go_wp2
    go_ret
    exact ⟨rfl, H.out, Kept.refl _ _⟩
  · have h2 := h.c2
    have f2 := h.fz 2
    have f3 := h.fz 3
    have h3 := h.c3
    have h0' : (arm == 0) = false := by simp [h0]
    by_cases h1 : arm = 1
    · subst h1
      clear h
      go_enter Tryz.func41, Tryz.ntmps41
      go_wp2
      go_ret
      exact ⟨rfl, (H.out.s2 0).s3 true, (kF _ _ _ _).trans' (kF _ _ _ _)⟩
    · have h1' : (arm - 1 == 0) = false := by rw [beq_eq_false_iff_ne]; omega
      have Hd := Lib.hid (show decide (arm = 1) = false by simp [h1])
      have He := Lib.hid (show decA arm = arm - 1 by unfold decA; rw [if_neg h0])
      have hgt : 1 < arm := by omega
      clear h h0 h1
      go_enter Tryz.func41, Tryz.ntmps41
      go_wp2
      go_ret
      unfold HitPost
      rw [Hd.out, He.out]
      exact ⟨rfl, (H.out.s2 (arm - 1)).s3 false, (kF _ _ _ _).trans' (kF _ _ _ _)⟩

/-! ### there -/
set_option maxHeartbeats 400000 in
theorem there_nil (s : ByteArray) (w : World) : Calls Tryz.prog 38 #[.pointer none, .string s] w fun e w' => e = .returned (.tuple #[.pointer none, .int .i64 2]) ∧ w = w' := by
  go_enter Tryz.func38, Tryz.ntmps38
  go_wp2_with (go_at_call 64; refine (ready_nil _).mono ?_; rintro e w' ⟨rfl, rfl⟩)
  go_ret2
  exact ⟨rfl, rfl⟩
set_option maxHeartbeats 400000 in
theorem there_down (s : ByteArray) (w : World) (F M : Nat) (lim arm : Int) (h : FB w F M lim arm true) : Calls Tryz.prog 38 #[.pointer (some ⟨F, 0, none⟩), .string s] w fun e w' => e = .returned (.tuple #[.pointer none, .int .i64 13]) ∧ w = w' := by
  have H := Lib.hid (ready_any w F M lim arm true h)
  rw [show rdy true = 13 from rfl] at H
  clear h
  go_enter Tryz.func38, Tryz.ntmps38
  go_wp2_with (go_at_call 64; refine H.out.mono ?_; rintro e w' ⟨rfl, rfl⟩)
  go_ret2
  exact ⟨rfl, rfl⟩
set_option maxHeartbeats 400000 in
theorem there_none (s : ByteArray) (w : World) (F M : Nat) (lim arm : Int) (ps : List PF) (clock : Nat) (h : FilesAt w F M ps clock lim arm false) (hn : ∀ p ∈ ps, p.name ≠ s) :
    Calls Tryz.prog 38 #[.pointer (some ⟨F, 0, none⟩), .string s] w fun e w' => e = .returned (.tuple #[.pointer none, .int .i64 8]) ∧ w = w' := by
  have H := Lib.hid (ready_any w F M lim arm false h.fb)
  rw [show rdy false = 0 from rfl] at H
  have h0 := FB.c0 (show FB w F M lim arm false from h.fb)
  have hl := look_none h.map s hn
  clear h hn
  go_enter Tryz.func38, Tryz.ntmps38
  go_wp2_with (go_at_call 64; refine H.out.mono ?_; rintro e w' ⟨rfl, rfl⟩)
  go_ret2
  exact ⟨rfl, rfl⟩
set_option maxHeartbeats 400000 in
theorem there_some (w : World) (F M : Nat) (lim arm : Int) (l1 l2 : List PF) (p : PF) (clock : Nat) (h : FilesAt w F M (l1 ++ p :: l2) clock lim arm false) :
    Calls Tryz.prog 38 #[.pointer (some ⟨F, 0, none⟩), .string p.name] w fun e w' => e = .returned (.tuple #[.pointer (some ⟨p.blk, 0, none⟩), .int .i64 0]) ∧ w = w' := by
  have H := Lib.hid (ready_any w F M lim arm false h.fb)
  rw [show rdy false = 0 from rfl] at H
  have h0 := FB.c0 (show FB w F M lim arm false from h.fb)
  have hl := look_some h.map (names_ne h.names).1 true
  rw [if_pos rfl] at hl
  clear h
  go_enter Tryz.func38, Tryz.ntmps38
  go_wp2_with (go_at_call 64; refine H.out.mono ?_; rintro e w' ⟨rfl, rfl⟩)
  go_ret2
  exact ⟨rfl, rfl⟩

/-! ### Arm, Limit, Down -/
def armI (n : Int) : Int := if n ≤ 0 then 0 else n
set_option maxHeartbeats 400000 in
theorem arm_nil (n : Int) (w : World) : Calls Tryz.prog 19 #[.pointer none, .int .i64 n] w fun e w' => e = .returned (.tuple #[]) ∧ w = w' := by
  go_enter Tryz.func19, Tryz.ntmps19
  go_wp2
  go_end0
  exact ⟨rfl, rfl⟩
set_option maxHeartbeats 400000 in
theorem arm_any (n : Int) (w : World) (F M : Nat) (lim arm : Int) (dn : Bool) (h : FB w F M lim arm dn) : Calls Tryz.prog 19 #[.pointer (some ⟨F, 0, none⟩), .int .i64 n] w fun e w' => e = .returned (.tuple #[]) ∧ FB w' F M lim (armI n) dn ∧ Kept (fun k => k = F) w w' := by
  have H := Lib.hid h
  have h2 := h.c2
  have f2 := h.fz 2
  clear h
  by_cases hn : n ≤ 0
  · have Ha := Lib.hid (show armI n = 0 by unfold armI; rw [if_pos hn])
    by_cases hz : n = 0
    · subst hz
      go_enter Tryz.func19, Tryz.ntmps19
      go_wp2
      go_end0
      exact ⟨rfl, by rw [Ha.out]; exact H.out.s2 0, kF _ _ _ _⟩
    · have hlt : n < 0 := by omega
      clear hz hn
      go_enter Tryz.func19, Tryz.ntmps19
      go_wp2
      go_end0
      exact ⟨rfl, by rw [Ha.out]; exact H.out.s2 0, kF _ _ _ _⟩
  · have Ha := Lib.hid (show armI n = n by unfold armI; rw [if_neg hn])
    have hn' : 0 < n := by omega
    go_enter Tryz.func19, Tryz.ntmps19
    go_wp2
    go_end0
    exact ⟨rfl, by rw [Ha.out]; exact H.out.s2 n, kF _ _ _ _⟩
set_option maxHeartbeats 400000 in
theorem limit_nil (n : Int) (w : World) : Calls Tryz.prog 22 #[.pointer none, .int .i64 n] w fun e w' => e = .returned (.tuple #[]) ∧ w = w' := by
  go_enter Tryz.func22, Tryz.ntmps22
  go_wp2
  go_end0
  exact ⟨rfl, rfl⟩
set_option maxHeartbeats 400000 in
theorem limit_any (n : Int) (w : World) (F M : Nat) (lim arm : Int) (dn : Bool) (h : FB w F M lim arm dn) : Calls Tryz.prog 22 #[.pointer (some ⟨F, 0, none⟩), .int .i64 n] w fun e w' => e = .returned (.tuple #[]) ∧ FB w' F M (boundI n) arm dn ∧ Kept (fun k => k = F) w w' := by
  have H := Lib.hid h
  have h1 := h.c1
  have f1 := h.fz 1
  clear h
  go_enter Tryz.func22, Tryz.ntmps22
  go_wp2_with (go_at_call 8; refine (bound_any _ _).mono ?_; rintro e w' ⟨rfl, rfl⟩)
  go_end0
  exact ⟨rfl, H.out.s1 _, kF _ _ _ _⟩
set_option maxHeartbeats 400000 in
theorem down_nil (w : World) : Calls Tryz.prog 11 #[.pointer none] w fun e w' => e = .returned (.bool false) ∧ w = w' := by
  go_enter Tryz.func11, Tryz.ntmps11
  go_wp2
  go_ret
  exact ⟨rfl, rfl⟩
set_option maxHeartbeats 400000 in
theorem down_any (w : World) (F M : Nat) (lim arm : Int) (dn : Bool) (h : FB w F M lim arm dn) : Calls Tryz.prog 11 #[.pointer (some ⟨F, 0, none⟩)] w fun e w' => e = .returned (.bool dn) ∧ w = w' := by
  have h3 := h.c3
  clear h
  go_enter Tryz.func11, Tryz.ntmps11
  go_wp2
  go_ret
  exact ⟨rfl, rfl⟩

/-! ### Used -/
theorem used_nil (w : World) : Calls Tryz.prog 69 #[.pointer none] w fun e w' => e = .returned (.int .i64 0) ∧ w = w' := by
  go_enter Tryz.func69, Tryz.ntmps69
  go_wp2
  go_ret
  exact ⟨rfl, rfl⟩
def usedL (ps : List PF) : Nat := (ps.map fun p => p.b.length).sum
/-- What is still to come: by the stamps that have been met. -/
def leftL (ps : List PF) (seen : Array Nat) : List PF := ps.filter fun p => !seen.contains p.born
theorem leftOf_entries (ps : List PF) (seen : Array Nat) : (leftOf (entriesOf ps) seen).toList = (leftL ps seen).map PF.entry := by
  simp only [leftOf, entriesOf, leftL]
  rw [Array.toList_filter, List.filter_map]
  rfl
def itLeft (ps : List PF) : Option Obj → Nat
  | some (.mapIter _ _ seen _) => (leftL ps seen).length
  | _ => 0
/-- One file comes out: what is left is one less. -/
theorem left_step (ps : List PF) (hb : (ps.map PF.born).Nodup) (seen : Array Nat) (p : PF) (hp : p ∈ leftL ps seen) :
    (leftL ps (seen.push p.born)).length + 1 = (leftL ps seen).length ∧ usedL (leftL ps seen) = p.b.length + usedL (leftL ps (seen.push p.born)) := by
  have hpp := (List.mem_filter.1 hp).1
  have hps := (List.mem_filter.1 hp).2
  obtain ⟨l1, l2, rfl⟩ := List.append_of_mem hpp
  have hne : ∀ q ∈ l1 ++ l2, q.born ≠ p.born := by
    simp only [List.map_append, List.map_cons] at hb
    rw [List.nodup_append] at hb
    obtain ⟨_, h2, h3⟩ := hb
    rw [List.nodup_cons] at h2
    intro q hq e
    rcases List.mem_append.1 hq with hq | hq
    · exact h3 q.born (List.mem_map.2 ⟨q, hq, rfl⟩) p.born (by simp) e
    · exact h2.1 (by rw [← e]; exact List.mem_map.2 ⟨q, hq, rfl⟩)
  have e : ∀ l : List PF, (∀ q ∈ l, q.born ≠ p.born) → l.filter (fun q => !(seen.push p.born).contains q.born) = l.filter (fun q => !seen.contains q.born) := by
    intro l hl
    apply List.filter_congr
    intro q hq
    have := hl q hq
    rw [Array.contains_push]
    simp [this]
  have h1 := e l1 (fun q hq => hne q (by simp [hq]))
  have h2 := e l2 (fun q hq => hne q (by simp [hq]))
  have hin : (!(seen.push p.born).contains p.born) = false := by simp
  simp only [leftL, List.filter_append, List.filter_cons, hin, hps, if_true, h1, h2]
  constructor
  · simp; omega
  · simp [usedL]; omega
theorem leftL_nil (ps : List PF) : leftL ps #[] = ps := by
  unfold leftL
  rw [List.filter_eq_self]
  intro a _; simp
set_option maxRecDepth 100000 in
set_option maxHeartbeats 1000000 in
theorem used_any (w : World) (F M : Nat) (lim arm : Int) (dn : Bool) (ps : List PF) (clock : Nat) (h : FilesAt w F M ps clock lim arm dn) (hu : usedL ps ≤ 1000000000) :
    Calls Tryz.prog 69 #[.pointer (some ⟨F, 0, none⟩)] w fun e w' => e = .returned (.int .i64 (usedL ps)) ∧ Kept (fun _ => False) w w' := by
  have h0 := FB.c0 (show FB w F M lim arm dn from h.fb)
  have hrg : (Instr.range 42 (.map (some M))).run Tryz.prog w = .ok (.pointer (some ⟨w.heap.size, 0, none⟩)) (w.alloc (.mapIter (some M) clock #[] clock)) := by
    simp only [Instr.range, Sem.run_bind, run_underlying Tryz.underlying42, Go.MapKept.run_getObj_map h.map, Result.andThen]
    rfl
  have HF := Lib.hid h
  have hu9 : ((usedL ps : Nat) : Int) ≤ 1000000000 := by omega
  have Hu := Lib.hid hu
  clear h hu
  go_enter Tryz.func69, Tryz.ntmps69
  go_wp2_with fail
  obtain ⟨r, hr⟩ : ∃ r, r = w.heap.size := ⟨_, rfl⟩
  have hr0 : (w.alloc (.mapIter (some M) clock #[] clock)).heap[r]? = some (.mapIter (some M) clock #[] clock) := by rw [hr]; exact heap_alloc_new w _
  have Hr := Lib.hid hr
  rw [← hr]
  clear hr hrg h0
  go_loopw [3, 5] (fun n _ wr => ∃ (seen : Array Nat) (m : Nat), n = .int .i64 m ∧ Hid (m + usedL (leftL ps seen) = usedL ps) ∧ Hid (wr.heap[r]? = some (.mapIter (some M) clock seen clock)) ∧ Hid (Kept (fun _ => False) w wr)) (fun _ _ wr => itLeft ps wr.heap[r]?)
  case atStart => exact ⟨#[], 0, rfl, Lib.hid (by rw [leftL_nil]; omega), Lib.hid hr0, Lib.hid ((Kept.refl _ w).alloc _)⟩
  case round =>
    obtain ⟨seen, m, rfl, hm, hit, hk⟩ := hrel
    have hFw : FilesAt wr F M ps clock lim arm dn := HF.out.kept hk.out (by simp)
    have hold : ∀ x ∈ (entriesOf ps).toList, x.born < clock := by
      intro x hx
      simp only [entriesOf] at hx
      obtain ⟨p, hp, rfl⟩ := List.mem_map.1 hx
      exact HF.out.old p hp
    have hmle : m ≤ usedL ps := by have := hm.out; omega
    rcases run_next_at (P := Tryz.prog) wr 0 r M clock clock seen (entriesOf ps) clock hit.out hFw.map hold (Nat.le_refl _) with ⟨hz, hrun⟩ | ⟨e, he, w1, hw1, hrun⟩
    · have hl0 : leftL ps seen = [] := by
        have : (leftOf (entriesOf ps) seen).toList.length = 0 := by simpa using hz
        rw [leftOf_entries] at this
        exact List.map_eq_nil_iff.1 (List.eq_nil_of_length_eq_zero this)
      have hmm : m = usedL ps := by have := hm.out; rw [hl0] at this; simpa [usedL] using this
      have Hmm := Lib.hid hmm
      clear hold hFw hz hl0 hmm
      go_wp2
      go_ret
      exact ⟨ret_int (by rw [Hmm.out]), hk.out⟩
    · rw [leftOf_entries] at he
      obtain ⟨p, hp, rfl⟩ := List.mem_map.1 he
      have hpp : p ∈ ps := (List.mem_filter.1 hp).1
      obtain ⟨hs1, hs2⟩ := left_step ps HF.out.borns seen p hp
      have hw1h : w1.heap = wr.heap := by rcases hw1 with rfl | rfl <;> rfl
      have hk1 : Kept (fun _ => False) wr w1 := by rcases hw1 with rfl | rfl; exact Kept.refl _ _; exact (Kept.refl _ _).drew
      obtain ⟨W2, hW2⟩ : ∃ W2, W2 = w1.putObj r (.mapIter (some M) clock (seen.push p.born) clock) := ⟨_, rfl⟩
      have hrlt : r < w1.heap.size := by rw [hw1h]; exact (Array.getElem?_eq_some_iff.1 hit.out).1
      have hit2 : W2.heap[r]? = some (.mapIter (some M) clock (seen.push p.born) clock) := by rw [hW2]; exact World.putObj_heap_same hrlt
      have hk2 : Kept (fun k => k = r) w1 W2 := by rw [hW2]; exact putObj_kept _ _ _
      have hkw : Kept (fun _ => False) w W2 := (hk.out.trans' hk1).trans hk2 (fun i hi e => by have := Hr.out; omega)
      have hF2 : FilesAt W2 F M ps clock lim arm dn := HF.out.kept hkw (by simp)
      have hrun' : (Instr.next (.pointer (some ⟨r, 0, none⟩)) false 0).run Tryz.prog wr = .ok (.tuple #[.bool true, p.entry.key, p.entry.val]) W2 := by rw [hW2]; exact hrun
      have hent : (Instr.entry (.pointer (some ⟨r, 0, none⟩))).run Tryz.prog W2 = .ok (.tuple #[p.entry.key, p.entry.val]) W2 :=
        run_entry_at (P := Tryz.prog) W2 r M clock seen (entriesOf ps) clock p.entry hit2 hF2.map (by simp only [entriesOf]; exact List.mem_map.2 ⟨p, hpp, rfl⟩) (by simp only [entriesOf, List.map_map]; exact HF.out.borns)
      obtain ⟨A, c, hv, hlen, _, _, _⟩ := Bs.of_own (hF2.at_ p hpp).own
      have hcell : W2.cell? ⟨p.blk, 0, none⟩ = some (.slice A p.b.length c) := by
        have := (hF2.at_ p hpp).cell
        rw [hv] at this
        simp [World.cell?, this]
      have hb1 : m + p.b.length ≤ usedL ps := by have := hm.out; omega
      have hb9 : (m : Int) + (p.b.length : Int) ≤ 1000000000 := by have := Hu.out; omega
      have HS1 := Lib.hid hs1
      have HM2 := Lib.hid (show m + p.b.length + usedL (leftL ps (seen.push p.born)) = usedL ps by have := hm.out; omega)
      have HI2 := Lib.hid hit2
      have HK2 := Lib.hid hkw
      simp only [PF.entry] at hrun' hent
      clear hold hFw hrun hw1 hw1h hk1 hW2 hrlt hit2 hk2 hkw hF2 hv hlen hs1 hs2 he hp hb1
      go_wp2
      go_roundw
      case rel => exact ⟨seen.push p.born, m + p.b.length, by simp, HM2, HI2, HK2⟩
      case measure =>
        rw [HI2.out, hit.out]
        simp only [itLeft]
        have := HS1.out
        omega
end Go.Proofs.YtibalgfejfjndaaGreatDoor
end
