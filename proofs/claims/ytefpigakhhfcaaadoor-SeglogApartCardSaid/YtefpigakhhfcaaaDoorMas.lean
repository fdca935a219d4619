import Derived.Test.YtefpigakhhfcaaaDoorMar
import Derived.Test.YtefpigakhhfcaaaDoorMaq
/-! keyed.Put: its state; a range over a function, where a round knows the loop's own blocks. -/
section
set_option linter.unusedVariables false
set_option linter.unusedSimpArgs false
namespace Go.Proofs.YtefpigakhhfcaaaDoor
open Go.RowKit Go.Sort

/-- The law. D: the block of the rounds' deferred calls; D + 1: the loop's record. -/
theorem wp_range2 {α : Type} {P : Program} {g : Operand} {ps : Array Tmp} {assign body : Code} {Q : Exit → Act → World → Prop} {a : Act} {w : World}
    {gf : Nat} {lb : Array Value} (hg : a.eval g = .func (.func gf) #[] lb) (eg : ∀ args w, (callFunc gf args).run P w = .ok (.enter gf args) w)
    {encs : α → Array Value} {own rd : Nat → Prop} {xs : List α} (hit : Iter P gf lb encs own rd xs w) (hps : ∀ x, (encs x).size = ps.size)
    (ho : ∀ k, own k → k < w.heap.size) (hr : ∀ k, rd k → k < w.heap.size)
    (I : List α → World → Prop) (Ix : Code → List α → World → Prop)
    (hI : ∀ pre A B, I pre A → Kept (fun k => own k ∨ k = w.heap.size ∨ k = w.heap.size + 1) A B → I pre B)
    (hIx : ∀ c pre A B, Ix c pre A → Kept (fun k => own k ∨ k = w.heap.size ∨ k = w.heap.size + 1) A B → Ix c pre B)
    (h0 : I [] w) (a₁ : α → World → Act) (wA : α → World → World) (hwA : ∀ x W, Kept (fun _ => False) W (wA x W))
    (hassign : ∀ (l : Nat) (x : α) (W : World) (K : Act → World → Prop), K (a₁ x W) (wA x W) →
      assign.wpIn (Fence.wide.inRound l) 7 P (Exit.then K (fun _ _ _ => False)) { tmps := (ps.zip (encs x)).foldl (fun t (p, v) => t.setIfInBounds p v) a.tmps, defers := [] } W)
    (hbody : ∀ (l : Nat) (pre : List α) (x : α) (post : List α) (W0 W : World), xs = pre ++ x :: post → I pre W0 → w.heap.size + 2 ≤ W0.heap.size → Kept (fun k => k = w.heap.size + 1) (wA x W0) W → W.heap[w.heap.size]? = some (.deferred (some [])) → (∃ r, W.heap[w.heap.size + 1]? = some (.loop r)) →
      body.wpIn (Fence.wide.inRound l) 7 P (roundPost w.heap.size rd I Ix (pre ++ [x]) W) (a₁ x W0) W)
    (hdone : ∀ (W : World), I xs W → W.heap[w.heap.size]? = some (.deferred (some [])) → Q .normal { a with defers := { target := .collected w.heap.size, args := #[] } :: a.defers } W)
    (hstop : ∀ (c : Code) (pre : List α) (W : World), pre <+: xs → Ix c pre W → W.heap[w.heap.size]? = some (.deferred (some [])) → c.wp P Q { a with defers := { target := .collected w.heap.size, args := #[] } :: a.defers } W) :
    (Code.rangeFunc g ps assign body).wp P Q a w := by
  refine (wpIn_wide (n := 9)).1 (wpIn_rangeFunc ?_)
  intro fn hfn
  obtain ⟨rec, hrec⟩ : ∃ rec : LoopState → Option Code → Loop, rec = fun st pe => { state := st, pending := pe, fn, tmps := a.tmps, params := ps, assign, body, defers := w.heap.size } := ⟨_, rfl⟩
  obtain ⟨W1, hW1⟩ : ∃ W1, (w.alloc (.deferred (some []))).alloc (.loop (rec .ready none)) = W1 := ⟨_, rfl⟩
  have hL1 : W1.heap[w.heap.size + 1]? = some (.loop (rec .ready none)) := by
    rw [← hW1]; have := World.alloc_heap_new (w.alloc (.deferred (some []))) (.loop (rec .ready none)); rwa [World.size_alloc] at this
  have hK1 : W1.heap[w.heap.size]? = some (.deferred (some [])) := by
    rw [← hW1]; exact (Below.heap_alloc _ _ _ (by simp)).trans (World.alloc_heap_new w _)
  have hk1 : Kept (fun _ => False) w W1 := by rw [← hW1]; exact ((Kept.refl _ w).alloc _).alloc _
  have hI1 : I [] W1 := hI _ _ _ h0 (hk1.mono fun _ _ h => h.elim)
  have no : ∀ k, own k → k ≠ w.heap.size ∧ k ≠ w.heap.size + 1 := fun k h => ⟨by have := ho k h; omega, by have := ho k h; omega⟩
  refine ⟨w.heap.size + 1, [{ target := .collected w.heap.size, args := #[] }], W1, { target := .fn (.func gf) lb, args := #[.func (.yield (w.heap.size + 1)) #[] #[]] }, W1, gf,
    #[.func (.yield (w.heap.size + 1)) #[] #[]] ++ lb, W1, ?_, ?_, fun _ _ => trivial, ?_, fun _ => by omega, ?_⟩
  · rw [← hW1, hrec]; exact run_enterLoop_outer _ _ _ _ _
  · simp only [resolve, hg]
    simp [go_sem]
  · simp [invoke, go_sem, eg]
  · refine (hit (w.heap.size + 1)
      (fun pre W => (I pre W ∧ W1.heap.size ≤ W.heap.size) ∧ W.heap[w.heap.size + 1]? = some (.loop (rec .ready none)) ∧ W.heap[w.heap.size]? = some (.deferred (some [])))
      (fun pre W => ∃ c, Ix c pre W ∧ W.heap[w.heap.size + 1]? = some (.loop (rec .done (some c))) ∧ W.heap[w.heap.size]? = some (.deferred (some [])))
      W1 hk1
      (fun pre A B hs hk => ⟨⟨hI _ _ _ hs.1.1 (hk.mono fun _ _ h => .inl h), Nat.le_trans hs.1.2 hk.size⟩, hk.heap hs.2.1 (fun h => (no _ h).2 rfl), hk.heap hs.2.2 (fun h => (no _ h).1 rfl)⟩)
      (fun pre A B hs hk => by
        obtain ⟨c, hc, hl, hd⟩ := hs
        exact ⟨c, hIx _ _ _ _ hc (hk.mono fun _ _ h => .inl h), hk.heap hl (fun h => (no _ h).2 rfl), hk.heap hd (fun h => (no _ h).1 rfl)⟩)
      ?_ ⟨⟨hI1, Nat.le_refl _⟩, hL1, hK1⟩).mono ?_
    · -- one round
      rintro pre x post W hxs ⟨⟨hi, hsz⟩, hl, hk⟩
      have hlt : w.heap.size + 1 < W.heap.size := (Array.getElem?_eq_some_iff.1 hl).1
      have hy := run_yield (P := P) (args := encs x) hl (by rw [hrec]; exact hps x)
      rw [hrec] at hy
      have hlA := (hwA x W).heap hl (by simp)
      have hsA := (hwA x W).size
      refine ⟨fn, _, assign, body, hy, roundIn_of_wpIn trivial (hassign _ x W _ ⟨_, run_beginRound hlA (by rw [hrec]), ?_⟩)⟩
      obtain ⟨W2, hW2⟩ : ∃ W2, W2 = (wA x W).putObj (w.heap.size + 1) (.loop { rec .ready none with state := .busy }) := ⟨_, rfl⟩
      rw [← hW2]
      have kp2 : Kept (fun k => k = w.heap.size + 1) (wA x W) W2 := by rw [hW2]; exact putObj_kept _ _ _
      have hl2 : W2.heap[w.heap.size + 1]? = some (.loop { rec .ready none with state := .busy }) := by rw [hW2]; exact World.putObj_heap_same (by omega)
      have hk2 : W2.heap[w.heap.size]? = some (.deferred (some [])) := kp2.heap ((hwA x W).heap hk (by simp)) (by omega)
      have hs2 : W2.heap.size = (wA x W).heap.size := by rw [hW2]; simp [World.putObj]
      refine wpIn_mono (hbody _ pre x post W W2 hxs hi (by omega) kp2 hk2 ⟨_, hl2⟩) ?_
      have fin : ∀ (jump : Option Code) (W3 : World), (∀ k, (k = w.heap.size ∨ k = w.heap.size + 1) → W3.heap[k]? = W2.heap[k]?) →
          (Instr.endRound (w.heap.size + 1) jump).run P W3 = .ok (.bool jump.isNone) (W3.putObj (w.heap.size + 1) (.loop (rec (if jump.isNone then .ready else .done) jump))) ∧
          (W3.putObj (w.heap.size + 1) (.loop (rec (if jump.isNone then .ready else .done) jump))).heap[w.heap.size + 1]? = some (.loop (rec (if jump.isNone then .ready else .done) jump)) ∧
          (W3.putObj (w.heap.size + 1) (.loop (rec (if jump.isNone then .ready else .done) jump))).heap[w.heap.size]? = some (.deferred (some [])) := fun jump W3 hk3 => by
        have hl3 := (hk3 (w.heap.size + 1) (.inr rfl)).trans hl2
        have := run_endRound (P := P) jump hl3
        rw [hrec] at this ⊢
        exact ⟨this, World.putObj_heap_same (Array.getElem?_eq_some_iff.1 hl3).1, (World.putObj_heap_other (by omega)).trans ((hk3 _ (.inl rfl)).trans hk2)⟩
      rintro e a3 W3 hp
      cases e with
      | normal =>
        obtain ⟨⟨hs3, hk3⟩, hi3⟩ := hp
        obtain ⟨hr', hl4, hk4⟩ := fin none W3 (fun k hk => hk3 k (.inr hk))
        refine ⟨_, _, hr', .inl ⟨rfl, ⟨⟨hI _ _ _ hi3 ((putObj_kept _ _ _).mono fun _ _ h => .inr (.inr h)), ?_⟩, hl4, hk4⟩, ?_, fun k hk => ?_⟩⟩
        · simp [World.putObj]; omega
        · simp [World.putObj]; omega
        · have := hr k hk
          rw [World.putObj_heap_other (by omega), hk3 k (.inl hk)]
          exact (kp2.block k (by omega) (by omega)).trans ((hwA x W).block k (by omega) (by simp))
      | ret =>
        obtain ⟨hr', hl4, hk4⟩ := fin (some .ret) W3 hp.1
        exact ⟨_, _, hr', .inr ⟨rfl, .ret, hIx _ _ _ _ hp.2 ((putObj_kept _ _ _).mono fun _ _ h => .inr (.inr h)), hl4, hk4⟩⟩
      | exit id =>
        obtain ⟨hr', hl4, hk4⟩ := fin (some (.exit id)) W3 hp.1
        exact ⟨_, _, hr', .inr ⟨rfl, .exit id, hIx _ _ _ _ hp.2 ((putObj_kept _ _ _).mono fun _ _ h => .inr (.inr h)), hl4, hk4⟩⟩
      | goto t =>
        obtain ⟨hr', hl4, hk4⟩ := fin (some (.goto t)) W3 hp.1
        exact ⟨_, _, hr', .inr ⟨rfl, .goto t, hIx _ _ _ _ hp.2 ((putObj_kept _ _ _).mono fun _ _ h => .inr (.inr h)), hl4, hk4⟩⟩
      | panic ch => exact hp.elim
      | outgrown => exact hp.elim
    · -- behind the iterator
      rintro e W2 ⟨⟨v, rfl⟩, (⟨⟨hi, _⟩, hl, hk⟩ | ⟨pre, hpre, c, hi, hl, hk⟩)⟩
      · exact ⟨none, _, by have := run_endLoop (P := P) hl (by rw [hrec]; simp); rw [hrec] at this; exact this, hdone _ (hI _ _ _ hi ((putObj_kept _ _ _).mono fun _ _ h => .inr (.inr h))) ((World.putObj_heap_other (by omega)).trans hk)⟩
      · exact ⟨some c, _, by have := run_endLoop (P := P) hl (by rw [hrec]; simp); rw [hrec] at this; exact this, wpIn_wide.2 (hstop c pre _ hpre (hIx _ _ _ _ hi ((putObj_kept _ _ _).mono fun _ _ h => .inr (.inr h))) ((World.putObj_heap_other (by omega)).trans hk))⟩

section
variable {w W W' : World} {O : Nat} {v v' : Value} {qs qs' : List PV}
end
end Go.Proofs.YtefpigakhhfcaaaDoor
end

/-! keyed.Put: the copy; the rounds. -/
section
set_option linter.unusedVariables false
set_option linter.unusedSimpArgs false
namespace Go.Proofs.YtefpigakhhfcaaaDoor
open Go.RowKit Go.Sort
attribute [local go_sem] Oper.semAt_some

theorem fin_core {qs : List PV} {P : List Core} {pre : List PV} {x q : PV} (h : qs.map PV.core = putC P (pre.map PV.core)) (hq : q.core = (x.key, x.b, false)) : (new1 qs x q).map PV.core = putC P ((pre ++ [x]).map PV.core) := by
  rw [new1_core qs x q hq, h]
  unfold putC
  rw [List.map_append, List.foldl_append]
  rfl
theorem set_size (W : World) (a : Addr) (u : Value) : (W.setCell a u).heap.size = W.heap.size := by simp [World.setCell]
theorem set3 (X Y : List Value) (r0 r1 r2 a b c : Value) (k : Nat) (hk : X.length = k) : (((X ++ r0 :: r1 :: r2 :: Y).set k a).set (k + 1) b).set (k + 2) c = X ++ a :: b :: c :: Y := by
  subst hk
  rw [List.set_append_right _ _ (Nat.le_refl _), Nat.sub_self, List.set_cons_zero, List.set_append_right _ _ (by omega), show X.length + 1 - X.length = 1 by omega, List.set_cons_succ, List.set_cons_zero, List.set_append_right _ _ (by omega), show X.length + 2 - X.length = 2 by omega, List.set_cons_succ, List.set_cons_succ, List.set_cons_zero]
theorem set_cells (qs : List PV) (i : Nat) (q : PV) (hi : i < qs.length) : ((((cellsP qs).set (i * 3) (.string q.key)).set (i * 3 + 1) q.val).set (i * 3 + 2) (.bool q.gone)) = cellsP (qs.take i ++ [q] ++ qs.drop (i + 1)) := by
  have hd : qs = qs.take i ++ qs[i] :: qs.drop (i + 1) := by
    conv => lhs; rw [← List.take_append_drop i qs, List.drop_eq_getElem_cons hi]
  have e : cellsP qs = cellsP (qs.take i) ++ (Value.string qs[i].key :: qs[i].val :: Value.bool qs[i].gone :: cellsP (qs.drop (i + 1))) := by
    conv => lhs; rw [hd, cellsP_append]
    rfl
  rw [e, set3 _ _ _ _ _ _ _ _ (i * 3) (by rw [cellsP_len, List.length_take]; omega), List.append_assoc, cellsP_append]
  rfl
end Go.Proofs.YtefpigakhhfcaaaDoor
end

/-! code.Reader: New, Zig, Raw, Text over bytes that were made. -/
section
set_option linter.unusedVariables false
set_option linter.unusedSimpArgs false
namespace Go.Proofs.YtefpigakhhfcaaaDoor
open Go.RowKit

theorem acc_cap {w W : World} {A : Option Addr} {n c : Nat} {xs : List UInt8} (h : Acc w W (.slice A n c) xs) : n ≤ c := by
  rcases h.1.2 with ⟨hv, hn⟩ | ⟨g, cap, cur, hv, hb, hh, hc, _⟩
  · simp only [Value.slice.injEq] at hv; omega
  · simp only [Value.slice.injEq] at hv; omega
theorem acc_form {w W : World} {v : Value} {xs : List UInt8} (h : Acc w W v xs) : ∃ A c, v = .slice A xs.length c ∧ Bs W A xs ∧ (A = none → c = 0) ∧ xs.length ≤ c ∧ ∀ ad, A = some ad → w.heap.size ≤ ad.block ∧ ad.block < W.heap.size := by
  obtain ⟨A, c, rfl, -, hb, hA, ho⟩ := Bs.of_own h.1
  exact ⟨A, c, rfl, hb, hA, acc_cap h, fun ad e => ⟨own_ge h.1 _ (ho ad e), own_lt' h.1 _ (ho ad e)⟩⟩
theorem slice_midB (W : World) (A : Option Addr) (l lo hi c : Nat) (h1 : lo ≤ hi) (h2 : hi ≤ c) : (Instr.slice 31 (.slice A l c) (some (.int .i64 lo)) (some (.int .i64 hi)) none).run Tryd.prog W = .ok (.slice (if c = lo then A else A.map (·.add (lo * 1))) (hi - lo) (c - lo)) W := by
  have hsz : ∀ W, (sizeOf 5).run Tryd.prog W = .ok 1 W := fun W => by kernel_rfl
  have h3 : (0 : Int) ≤ (lo : Int) ∧ (lo : Int) ≤ (hi : Int) := by omega
  have h4 : (0 : Int) ≤ (hi : Int) ∧ (hi : Int) ≤ (c : Int) := by omega
  simp only [Instr.slice, Sem.run_bind, run_underlying Tryd.underlying31, Result.andThen, Instr.sliceBounds, Instr.sliceBound, asIntOf, Sem.run_pure, if_pos h3, if_pos h4, hsz, Int.toNat_natCast]
theorem slice_fromB (W : World) (A : Option Addr) (l lo c : Nat) (h1 : lo ≤ l) (h2 : l ≤ c) : (Instr.slice 31 (.slice A l c) (some (.int .i64 lo)) none none).run Tryd.prog W = .ok (.slice (if c = lo then A else A.map (·.add (lo * 1))) (l - lo) (c - lo)) W := by
  have hsz : ∀ W, (sizeOf 5).run Tryd.prog W = .ok 1 W := fun W => by kernel_rfl
  have h3 : (0 : Int) ≤ (lo : Int) ∧ (lo : Int) ≤ (l : Int) := by omega
  have h4 : (0 : Int) ≤ (l : Int) ∧ (l : Int) ≤ (c : Int) := by omega
  simp only [Instr.slice, Sem.run_bind, run_underlying Tryd.underlying31, Result.andThen, Instr.sliceBounds, Instr.sliceBound, asIntOf, Sem.run_pure, if_pos h3, if_pos h4, hsz, Int.toNat_natCast]
theorem bs_drop {W : World} {A : Option Addr} {xs : List UInt8} (h : Bs W A xs) (k : Nat) : Bs W (A.map (·.add (k * 1))) (xs.drop k) := by
  refine ⟨fun e => ?_, fun ad e j u hu => ?_⟩
  · cases A with
    | none => rw [h.1 rfl, List.drop_nil]
    | some a => cases e
  · cases A with
    | none => cases e
    | some a =>
      injection e with e
      subst e
      rw [List.getElem?_map, List.getElem?_drop] at hu
      have h1 := h.2 a rfl (k + j) u (by rw [List.getElem?_map]; exact hu)
      have e1 : ((a.add (k * 1)).add j) = a.add (k + j) := by
        rw [Nat.mul_one, Addr.add_add]
      rw [e1]; exact h1
theorem bs_take {W : World} {A : Option Addr} {xs : List UInt8} (h : Bs W A xs) (k : Nat) : Bs W A (xs.take k) := by
  refine ⟨fun e => by rw [h.1 e, List.take_nil], fun ad e j u hu => ?_⟩
  rw [List.getElem?_map, List.getElem?_take] at hu
  split at hu
  · exact h.2 ad e j u (by rw [List.getElem?_map]; exact hu)
  · cases hu
/-- s[lo:hi], as the slice that comes of it. -/
theorem midB_form (A : Option Addr) (l lo hi c : Nat) (xs : List UInt8) (hl : l = xs.length) (h1 : lo ≤ hi) (h2 : hi ≤ l) (hc : l ≤ c) (hA : A = none → c = 0) :
    ∃ A2, (∀ W, (Instr.slice 31 (.slice A l c) (some (.int .i64 lo)) (some (.int .i64 hi)) none).run Tryd.prog W = .ok (.slice A2 (hi - lo) (c - lo)) W) ∧ (∀ W, Bs W A xs → Bs W A2 ((xs.drop lo).take (hi - lo))) ∧ (A2 = none → c - lo = 0) ∧ (∀ ad, A2 = some ad → ∃ ad', A = some ad' ∧ ad.block = ad'.block) := by
  refine ⟨if c = lo then A else A.map (·.add (lo * 1)), fun W => slice_midB W A l lo hi c h1 (by omega), fun W h => ?_, fun e => ?_, fun ad e => ?_⟩
  · by_cases h0 : c = lo
    · rw [if_pos h0, show hi - lo = 0 by omega, List.take_zero]; exact Bs.nil _ _
    · rw [if_neg h0]; exact bs_take (bs_drop h lo) _
  · by_cases h0 : c = lo
    · omega
    · rw [if_neg h0] at e
      cases A with
      | none => have := hA rfl; omega
      | some a => cases e
  · by_cases h0 : c = lo
    · rw [if_pos h0] at e; exact ⟨ad, e, rfl⟩
    · rw [if_neg h0] at e
      cases A with
      | none => cases e
      | some a => injection e with e; exact ⟨a, rfl, by rw [← e, add_block]⟩
end Go.Proofs.YtefpigakhhfcaaaDoor
end

/-! keyed.pair, keyed.Take over bytes that were made. -/
section
set_option linter.unusedVariables false
set_option linter.unusedSimpArgs false
namespace Go.Proofs.YtefpigakhhfcaaaDoor
open Go.RowKit

/-- The bytes that a pair has when it is read again. -/
def nb (p : PV) : List UInt8 := if p.gone then [] else p.b
def gB (p : PV) : UInt8 := if p.gone then 1 else 0
theorem pairB_eq (p : PV) : pairB p = textB (kb p.key) ++ gB p :: textB (nb p) := by
  unfold pairB gB nb
  split
  · rfl
  · rfl
theorem str_of (W : World) (A : Option Addr) (n c : Nat) (xs : List UInt8) (hn : n = xs.length) (h : Bs W A xs) : (convert 31 9 (.slice A n c)).run Tryd.prog W = .ok (.string ⟨xs.toArray⟩) W := by
  subst hn
  cases A with
  | none =>
    have h0 := h.1 rfl
    subst h0
    exact (run_convert_bytes_string W 31 9 5 none 0 c Tryd.underlying31 Tryd.underlying5 Tryd.underlying9).trans rfl
  | some ad =>
    exact run_convert_bytes_back W 31 9 5 ad c xs Tryd.underlying31 Tryd.underlying5 Tryd.underlying9 fun j hj => bs_at h (List.getElem?_eq_getElem hj)
theorem kb_back (s : ByteArray) : (⟨(kb s).toArray⟩ : ByteArray) = s := by cases s; simp [kb]
theorem own_one {W : World} {base : Nat} {v : Value} {g : UInt8} (h : W.ownsRow base 5 1 v 1 [bv g]) : ∃ G c, v = .slice (some ⟨G, 0, none⟩) 1 c ∧ base ≤ G ∧ W.cell? ⟨G, 0, none⟩ = some (.int .u8 (g.toNat : Nat)) := by
  obtain ⟨A, c, rfl, -, hb, -, -⟩ := Bs.of_own (xs := [g]) h
  rcases h.2 with ⟨hv, hn⟩ | ⟨G, cap, cur, hv, hG, -⟩
  · omega
  · simp only [Value.slice.injEq] at hv
    obtain ⟨rfl, -, -⟩ := hv
    exact ⟨G, c, rfl, hG, by simpa [Addr.add] using bs_at (k := 0) hb rfl⟩
/-- A structure in a cell, and a number. -/
theorem results_row_tmp {P : Program} {fn : Func} {p u : Tmp} {ty : TypeId} (h : fn.results = #[.cell p ty, .tmp u]) (tmps : Array Value) (w : World) (g : Nat) (t : TypeId) (cs : Array Value) (fr : Nat × Nat) (d : TypeDesc)
    (hp : tmps.getD p undef = .pointer (some ⟨g, 0, none⟩)) (hg : w.heap[g]? = some (.cells cs t fr))
    (hu : P.underlying ty = some d) (hd : (match d with | .struct _ | .array _ _ => true | _ => false) = true) (hi : (P.info? ty).map (·.size) = some cs.size) :
    (results fn tmps).run P w = .ok (.tuple #[.agg cs, tmps.getD u undef]) w := by
  have hp' : tmps[p]?.getD undef = .pointer (some ⟨g, 0, none⟩) := by simpa using hp
  simp [results, h, hp', asAddr, Go.run_loadVar_row w g t ty cs fr d hg hu hd hi]
end Go.Proofs.YtefpigakhhfcaaaDoor
end

/-! keyed.Take over bytes that were made. -/
section
set_option linter.unusedVariables false
set_option linter.unusedSimpArgs false
namespace Go.Proofs.YtefpigakhhfcaaaDoor
open Go.RowKit

/-- What of a pair is read again. -/
def normP (p : PV) : ByteArray × List UInt8 × Bool := (p.key, nb p, p.gone)
theorem drop_flat (ps : List PV) (i : Nat) (p : PV) (hp : ps[i]? = some p) : (ps.drop i).flatMap pairB = pairB p ++ (ps.drop (i + 1)).flatMap pairB := by
  rw [List.drop_eq_getElem_cons (List.getElem?_eq_some_iff.1 hp).1, List.flatMap_cons, (List.getElem?_eq_some_iff.1 hp).2]
end Go.Proofs.YtefpigakhhfcaaaDoor
end
