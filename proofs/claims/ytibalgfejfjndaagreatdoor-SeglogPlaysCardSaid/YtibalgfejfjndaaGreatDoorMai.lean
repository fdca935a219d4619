import Derived.Test.YtibalgfejfjndaaGreatDoorMah
import Derived.Laws.CopyOwn
import Derived.Laws.Bits64
import Derived.WalkSpells
import Derived.WalkLawsBesides
import Derived.Test.YtibalgfejfjndaaGreatDoorMaf
/-! keyed.Put: its state; a range over a function, where a round knows the loop's own blocks. -/
section
set_option linter.unusedVariables false
set_option linter.unusedSimpArgs false
namespace Go.Proofs.YtibalgfejfjndaaGreatDoor
open Go.RowKit Go.Sort

/-- The law. D: the block of the rounds' deferred calls; D + 1: the loop's record. -/
theorem wp_range2 {α : Type} {P : Program} {g : Operand} {ps : Array Tmp} {assign body : Code} {Q : Exit → Act → World → Prop} {a : Act} {w : World}
    {gf : Nat} {lb : Array Value} (hg : a.eval g = .func (.func gf) #[] lb) (eg : ∀ args w, (callFunc gf args).run P w = .ok (.enter gf args) w)
    {encs : α → Array Value} {own rd : Nat → Prop} {xs : List α} (hit : Iter P gf lb encs own rd xs w) (hps : ∀ x, (encs x).size = ps.size)
    (ho : ∀ k, own k → k < w.heap.size) (hr : ∀ k, rd k → k < w.heap.size)
    (I : List α → World → Prop) (Ix : Code → List α → World → Prop)
    (hI : ∀ pre A B, I pre A → Kept (fun k => own k ∨ k = w.heap.size ∨ k = w.heap.size + 1) A B → I pre B)
    (hIx : ∀ c pre A B, Ix c pre A → Kept (fun k => own k ∨ k = w.heap.size ∨ k = w.heap.size + 1) A B → Ix c pre B)
    (h0 : I [] w) (a₁ : α → World → Act) (wA : α → World → World) (hwA : ∀ x W, Kept (fun _ => False) W (wA x W))
    (hassign : ∀ (l : Nat) (x : α) (W : World) (K : Act → World → Prop), K (a₁ x W) (wA x W) →
      assign.wpIn (Fence.wide.inRound l) 7 P (Exit.then K (fun _ _ _ => False)) { tmps := (ps.zip (encs x)).foldl (fun t (p, v) => t.setIfInBounds p v) a.tmps, defers := [] } W)
    (hbody : ∀ (l : Nat) (pre : List α) (x : α) (post : List α) (W0 W : World), xs = pre ++ x :: post → I pre W0 → w.heap.size + 2 ≤ W0.heap.size → Kept (fun k => k = w.heap.size + 1) (wA x W0) W → W.heap[w.heap.size]? = some (.deferred (some [])) → (∃ r, W.heap[w.heap.size + 1]? = some (.loop r)) →
      body.wpIn (Fence.wide.inRound l) 7 P (roundPost w.heap.size rd I Ix (pre ++ [x]) W) (a₁ x W0) W)
    (hdone : ∀ (W : World), I xs W → W.heap[w.heap.size]? = some (.deferred (some [])) → Q .normal { a with defers := { target := .collected w.heap.size, args := #[] } :: a.defers } W)
    (hstop : ∀ (c : Code) (pre : List α) (W : World), pre <+: xs → Ix c pre W → W.heap[w.heap.size]? = some (.deferred (some [])) → c.wp P Q { a with defers := { target := .collected w.heap.size, args := #[] } :: a.defers } W) :
    (Code.rangeFunc g ps assign body).wp P Q a w := by
  refine (wpIn_wide (n := 9)).1 (wpIn_rangeFunc ?_)
  intro fn hfn
  obtain ⟨rec, hrec⟩ : ∃ rec : LoopState → Option Code → Loop, rec = fun st pe => { state := st, pending := pe, fn, tmps := a.tmps, params := ps, assign, body, defers := w.heap.size } := ⟨_, rfl⟩
  obtain ⟨W1, hW1⟩ : ∃ W1, (w.alloc (.deferred (some []))).alloc (.loop (rec .ready none)) = W1 := ⟨_, rfl⟩
  have hL1 : W1.heap[w.heap.size + 1]? = some (.loop (rec .ready none)) := by
    rw [← hW1]; have := World.alloc_heap_new (w.alloc (.deferred (some []))) (.loop (rec .ready none)); rwa [World.size_alloc] at this
  have hK1 : W1.heap[w.heap.size]? = some (.deferred (some [])) := by
    rw [← hW1]; exact (Below.heap_alloc _ _ _ (by simp)).trans (World.alloc_heap_new w _)
  have hk1 : Kept (fun _ => False) w W1 := by rw [← hW1]; exact ((Kept.refl _ w).alloc _).alloc _
  have hI1 : I [] W1 := hI _ _ _ h0 (hk1.mono fun _ _ h => h.elim)
  have no : ∀ k, own k → k ≠ w.heap.size ∧ k ≠ w.heap.size + 1 := fun k h => ⟨by have := ho k h; omega, by have := ho k h; omega⟩
  refine ⟨w.heap.size + 1, [{ target := .collected w.heap.size, args := #[] }], W1, { target := .fn (.func gf) lb, args := #[.func (.yield (w.heap.size + 1)) #[] #[]] }, W1, gf,
    #[.func (.yield (w.heap.size + 1)) #[] #[]] ++ lb, W1, ?_, ?_, fun _ _ => trivial, ?_, fun _ => by omega, ?_⟩
  · rw [← hW1, hrec]; exact run_enterLoop_outer _ _ _ _ _
  · simp only [resolve, hg]
    simp [go_sem]
  · simp [invoke, go_sem, eg]
  · refine (hit (w.heap.size + 1)
      (fun pre W => (I pre W ∧ W1.heap.size ≤ W.heap.size) ∧ W.heap[w.heap.size + 1]? = some (.loop (rec .ready none)) ∧ W.heap[w.heap.size]? = some (.deferred (some [])))
      (fun pre W => ∃ c, Ix c pre W ∧ W.heap[w.heap.size + 1]? = some (.loop (rec .done (some c))) ∧ W.heap[w.heap.size]? = some (.deferred (some [])))
      W1 hk1
      (fun pre A B hs hk => ⟨⟨hI _ _ _ hs.1.1 (hk.mono fun _ _ h => .inl h), Nat.le_trans hs.1.2 hk.size⟩, hk.heap hs.2.1 (fun h => (no _ h).2 rfl), hk.heap hs.2.2 (fun h => (no _ h).1 rfl)⟩)
      (fun pre A B hs hk => by
        obtain ⟨c, hc, hl, hd⟩ := hs
        exact ⟨c, hIx _ _ _ _ hc (hk.mono fun _ _ h => .inl h), hk.heap hl (fun h => (no _ h).2 rfl), hk.heap hd (fun h => (no _ h).1 rfl)⟩)
      ?_ ⟨⟨hI1, Nat.le_refl _⟩, hL1, hK1⟩).mono ?_
    · -- one round
      rintro pre x post W hxs ⟨⟨hi, hsz⟩, hl, hk⟩
      have hlt : w.heap.size + 1 < W.heap.size := (Array.getElem?_eq_some_iff.1 hl).1
      have hy := run_yield (P := P) (args := encs x) hl (by rw [hrec]; exact hps x)
      rw [hrec] at hy
      have hlA := (hwA x W).heap hl (by simp)
      have hsA := (hwA x W).size
      refine ⟨fn, _, assign, body, hy, roundIn_of_wpIn trivial (hassign _ x W _ ⟨_, run_beginRound hlA (by rw [hrec]), ?_⟩)⟩
      obtain ⟨W2, hW2⟩ : ∃ W2, W2 = (wA x W).putObj (w.heap.size + 1) (.loop { rec .ready none with state := .busy }) := ⟨_, rfl⟩
      rw [← hW2]
      have kp2 : Kept (fun k => k = w.heap.size + 1) (wA x W) W2 := by rw [hW2]; exact putObj_kept _ _ _
      have hl2 : W2.heap[w.heap.size + 1]? = some (.loop { rec .ready none with state := .busy }) := by rw [hW2]; exact World.putObj_heap_same (by omega)
      have hk2 : W2.heap[w.heap.size]? = some (.deferred (some [])) := kp2.heap ((hwA x W).heap hk (by simp)) (by omega)
      have hs2 : W2.heap.size = (wA x W).heap.size := by rw [hW2]; simp [World.putObj]
      refine wpIn_mono (hbody _ pre x post W W2 hxs hi (by omega) kp2 hk2 ⟨_, hl2⟩) ?_
      have fin : ∀ (jump : Option Code) (W3 : World), (∀ k, (k = w.heap.size ∨ k = w.heap.size + 1) → W3.heap[k]? = W2.heap[k]?) →
          (Instr.endRound (w.heap.size + 1) jump).run P W3 = .ok (.bool jump.isNone) (W3.putObj (w.heap.size + 1) (.loop (rec (if jump.isNone then .ready else .done) jump))) ∧
          (W3.putObj (w.heap.size + 1) (.loop (rec (if jump.isNone then .ready else .done) jump))).heap[w.heap.size + 1]? = some (.loop (rec (if jump.isNone then .ready else .done) jump)) ∧
          (W3.putObj (w.heap.size + 1) (.loop (rec (if jump.isNone then .ready else .done) jump))).heap[w.heap.size]? = some (.deferred (some [])) := fun jump W3 hk3 => by
        have hl3 := (hk3 (w.heap.size + 1) (.inr rfl)).trans hl2
        have := run_endRound (P := P) jump hl3
        rw [hrec] at this ⊢
        exact ⟨this, World.putObj_heap_same (Array.getElem?_eq_some_iff.1 hl3).1, (World.putObj_heap_other (by omega)).trans ((hk3 _ (.inl rfl)).trans hk2)⟩
      rintro e a3 W3 hp
      cases e with
      | normal =>
        obtain ⟨⟨hs3, hk3⟩, hi3⟩ := hp
        obtain ⟨hr', hl4, hk4⟩ := fin none W3 (fun k hk => hk3 k (.inr hk))
        refine ⟨_, _, hr', .inl ⟨rfl, ⟨⟨hI _ _ _ hi3 ((putObj_kept _ _ _).mono fun _ _ h => .inr (.inr h)), ?_⟩, hl4, hk4⟩, ?_, fun k hk => ?_⟩⟩
        · simp [World.putObj]; omega
        · simp [World.putObj]; omega
        · have := hr k hk
          rw [World.putObj_heap_other (by omega), hk3 k (.inl hk)]
          exact (kp2.block k (by omega) (by omega)).trans ((hwA x W).block k (by omega) (by simp))
      | ret =>
        obtain ⟨hr', hl4, hk4⟩ := fin (some .ret) W3 hp.1
        exact ⟨_, _, hr', .inr ⟨rfl, .ret, hIx _ _ _ _ hp.2 ((putObj_kept _ _ _).mono fun _ _ h => .inr (.inr h)), hl4, hk4⟩⟩
      | exit id =>
        obtain ⟨hr', hl4, hk4⟩ := fin (some (.exit id)) W3 hp.1
        exact ⟨_, _, hr', .inr ⟨rfl, .exit id, hIx _ _ _ _ hp.2 ((putObj_kept _ _ _).mono fun _ _ h => .inr (.inr h)), hl4, hk4⟩⟩
      | goto t =>
        obtain ⟨hr', hl4, hk4⟩ := fin (some (.goto t)) W3 hp.1
        exact ⟨_, _, hr', .inr ⟨rfl, .goto t, hIx _ _ _ _ hp.2 ((putObj_kept _ _ _).mono fun _ _ h => .inr (.inr h)), hl4, hk4⟩⟩
      | panic ch => exact hp.elim
      | outgrown => exact hp.elim
    · -- behind the iterator
      rintro e W2 ⟨⟨v, rfl⟩, (⟨⟨hi, _⟩, hl, hk⟩ | ⟨pre, hpre, c, hi, hl, hk⟩)⟩
      · exact ⟨none, _, by have := run_endLoop (P := P) hl (by rw [hrec]; simp); rw [hrec] at this; exact this, hdone _ (hI _ _ _ hi ((putObj_kept _ _ _).mono fun _ _ h => .inr (.inr h))) ((World.putObj_heap_other (by omega)).trans hk)⟩
      · exact ⟨some c, _, by have := run_endLoop (P := P) hl (by rw [hrec]; simp); rw [hrec] at this; exact this, wpIn_wide.2 (hstop c pre _ hpre (hIx _ _ _ _ hi ((putObj_kept _ _ _).mono fun _ _ h => .inr (.inr h))) ((World.putObj_heap_other (by omega)).trans hk))⟩

section
variable {w W W' : World} {O : Nat} {v v' : Value} {qs qs' : List PV}
end
end Go.Proofs.YtibalgfejfjndaaGreatDoor
end

/-! keyed.Put: the copy; the rounds. -/
section
set_option linter.unusedVariables false
set_option linter.unusedSimpArgs false
namespace Go.Proofs.YtibalgfejfjndaaGreatDoor
open Go.RowKit Go.Sort
attribute [local go_sem] Oper.semAt_some

theorem fin_core {qs : List PV} {P : List Core} {pre : List PV} {x q : PV} (h : qs.map PV.core = putC P (pre.map PV.core)) (hq : q.core = (x.key, x.b, false)) : (new1 qs x q).map PV.core = putC P ((pre ++ [x]).map PV.core) := by
  rw [new1_core qs x q hq, h]
  unfold putC
  rw [List.map_append, List.foldl_append]
  rfl
theorem set_size (W : World) (a : Addr) (u : Value) : (W.setCell a u).heap.size = W.heap.size := by simp [World.setCell]
theorem set3 (X Y : List Value) (r0 r1 r2 a b c : Value) (k : Nat) (hk : X.length = k) : (((X ++ r0 :: r1 :: r2 :: Y).set k a).set (k + 1) b).set (k + 2) c = X ++ a :: b :: c :: Y := by
  subst hk
  rw [List.set_append_right _ _ (Nat.le_refl _), Nat.sub_self, List.set_cons_zero, List.set_append_right _ _ (by omega), show X.length + 1 - X.length = 1 by omega, List.set_cons_succ, List.set_cons_zero, List.set_append_right _ _ (by omega), show X.length + 2 - X.length = 2 by omega, List.set_cons_succ, List.set_cons_succ, List.set_cons_zero]
theorem set_cells (qs : List PV) (i : Nat) (q : PV) (hi : i < qs.length) : ((((cellsP qs).set (i * 3) (.string q.key)).set (i * 3 + 1) q.val).set (i * 3 + 2) (.bool q.gone)) = cellsP (qs.take i ++ [q] ++ qs.drop (i + 1)) := by
  have hd : qs = qs.take i ++ qs[i] :: qs.drop (i + 1) := by
    conv => lhs; rw [← List.take_append_drop i qs, List.drop_eq_getElem_cons hi]
  have e : cellsP qs = cellsP (qs.take i) ++ (Value.string qs[i].key :: qs[i].val :: Value.bool qs[i].gone :: cellsP (qs.drop (i + 1))) := by
    conv => lhs; rw [hd, cellsP_append]
    rfl
  rw [e, set3 _ _ _ _ _ _ _ _ (i * 3) (by rw [cellsP_len, List.length_take]; omega), List.append_assoc, cellsP_append]
  rfl
end Go.Proofs.YtibalgfejfjndaaGreatDoor
end

/-! code.Reader: New, Zig, Raw, Text over bytes that were made. -/
section
set_option linter.unusedVariables false
set_option linter.unusedSimpArgs false
namespace Go.Proofs.YtibalgfejfjndaaGreatDoor
open Go.RowKit

theorem acc_cap {w W : World} {A : Option Addr} {n c : Nat} {xs : List UInt8} (h : Acc w W (.slice A n c) xs) : n ≤ c := by
  rcases h.1.2 with ⟨hv, hn⟩ | ⟨g, cap, cur, hv, hb, hh, hc, _⟩
  · simp only [Value.slice.injEq] at hv; omega
  · simp only [Value.slice.injEq] at hv; omega
theorem acc_form {w W : World} {v : Value} {xs : List UInt8} (h : Acc w W v xs) : ∃ A c, v = .slice A xs.length c ∧ Bs W A xs ∧ (A = none → c = 0) ∧ xs.length ≤ c ∧ ∀ ad, A = some ad → w.heap.size ≤ ad.block ∧ ad.block < W.heap.size := by
  obtain ⟨A, c, rfl, -, hb, hA, ho⟩ := Bs.of_own h.1
  exact ⟨A, c, rfl, hb, hA, acc_cap h, fun ad e => ⟨own_ge h.1 _ (ho ad e), own_lt' h.1 _ (ho ad e)⟩⟩
theorem slice_midB (W : World) (A : Option Addr) (l lo hi c : Nat) (h1 : lo ≤ hi) (h2 : hi ≤ c) : (Instr.slice 30 (.slice A l c) (some (.int .i64 lo)) (some (.int .i64 hi)) none).run Tryz.prog W = .ok (.slice (if c = lo then A else A.map (·.add (lo * 1))) (hi - lo) (c - lo)) W := by
  have hsz : ∀ W, (sizeOf 5).run Tryz.prog W = .ok 1 W := fun W => by kernel_rfl
  have h3 : (0 : Int) ≤ (lo : Int) ∧ (lo : Int) ≤ (hi : Int) := by omega
  have h4 : (0 : Int) ≤ (hi : Int) ∧ (hi : Int) ≤ (c : Int) := by omega
  simp only [Instr.slice, Sem.run_bind, run_underlying Tryz.underlying30, Result.andThen, Instr.sliceBounds, Instr.sliceBound, asIntOf, Sem.run_pure, if_pos h3, if_pos h4, hsz, Int.toNat_natCast]
theorem slice_fromB (W : World) (A : Option Addr) (l lo c : Nat) (h1 : lo ≤ l) (h2 : l ≤ c) : (Instr.slice 30 (.slice A l c) (some (.int .i64 lo)) none none).run Tryz.prog W = .ok (.slice (if c = lo then A else A.map (·.add (lo * 1))) (l - lo) (c - lo)) W := by
  have hsz : ∀ W, (sizeOf 5).run Tryz.prog W = .ok 1 W := fun W => by kernel_rfl
  have h3 : (0 : Int) ≤ (lo : Int) ∧ (lo : Int) ≤ (l : Int) := by omega
  have h4 : (0 : Int) ≤ (l : Int) ∧ (l : Int) ≤ (c : Int) := by omega
  simp only [Instr.slice, Sem.run_bind, run_underlying Tryz.underlying30, Result.andThen, Instr.sliceBounds, Instr.sliceBound, asIntOf, Sem.run_pure, if_pos h3, if_pos h4, hsz, Int.toNat_natCast]
theorem bs_drop {W : World} {A : Option Addr} {xs : List UInt8} (h : Bs W A xs) (k : Nat) : Bs W (A.map (·.add (k * 1))) (xs.drop k) := by
  refine ⟨fun e => ?_, fun ad e j u hu => ?_⟩
  · cases A with
    | none => rw [h.1 rfl, List.drop_nil]
    | some a => cases e
  · cases A with
    | none => cases e
    | some a =>
      injection e with e
      subst e
      rw [List.getElem?_map, List.getElem?_drop] at hu
      have h1 := h.2 a rfl (k + j) u (by rw [List.getElem?_map]; exact hu)
      have e1 : ((a.add (k * 1)).add j) = a.add (k + j) := by
        rw [Nat.mul_one, Addr.add_add]
      rw [e1]; exact h1
theorem bs_take {W : World} {A : Option Addr} {xs : List UInt8} (h : Bs W A xs) (k : Nat) : Bs W A (xs.take k) := by
  refine ⟨fun e => by rw [h.1 e, List.take_nil], fun ad e j u hu => ?_⟩
  rw [List.getElem?_map, List.getElem?_take] at hu
  split at hu
  · exact h.2 ad e j u (by rw [List.getElem?_map]; exact hu)
  · cases hu
/-- s[lo:hi], as the slice that comes of it. -/
theorem midB_form (A : Option Addr) (l lo hi c : Nat) (xs : List UInt8) (hl : l = xs.length) (h1 : lo ≤ hi) (h2 : hi ≤ l) (hc : l ≤ c) (hA : A = none → c = 0) :
    ∃ A2, (∀ W, (Instr.slice 30 (.slice A l c) (some (.int .i64 lo)) (some (.int .i64 hi)) none).run Tryz.prog W = .ok (.slice A2 (hi - lo) (c - lo)) W) ∧ (∀ W, Bs W A xs → Bs W A2 ((xs.drop lo).take (hi - lo))) ∧ (A2 = none → c - lo = 0) ∧ (∀ ad, A2 = some ad → ∃ ad', A = some ad' ∧ ad.block = ad'.block) := by
  refine ⟨if c = lo then A else A.map (·.add (lo * 1)), fun W => slice_midB W A l lo hi c h1 (by omega), fun W h => ?_, fun e => ?_, fun ad e => ?_⟩
  · by_cases h0 : c = lo
    · rw [if_pos h0, show hi - lo = 0 by omega, List.take_zero]; exact Bs.nil _ _
    · rw [if_neg h0]; exact bs_take (bs_drop h lo) _
  · by_cases h0 : c = lo
    · omega
    · rw [if_neg h0] at e
      cases A with
      | none => have := hA rfl; omega
      | some a => cases e
  · by_cases h0 : c = lo
    · rw [if_pos h0] at e; exact ⟨ad, e, rfl⟩
    · rw [if_neg h0] at e
      cases A with
      | none => cases e
      | some a => injection e with e; exact ⟨a, rfl, by rw [← e, add_block]⟩
end Go.Proofs.YtibalgfejfjndaaGreatDoor
end

/-! keyed.pair, keyed.Take over bytes that were made. -/
section
set_option linter.unusedVariables false
set_option linter.unusedSimpArgs false
namespace Go.Proofs.YtibalgfejfjndaaGreatDoor
open Go.RowKit

/-- The bytes that a pair has when it is read again. -/
def nb (p : PV) : List UInt8 := if p.gone then [] else p.b
def gB (p : PV) : UInt8 := if p.gone then 1 else 0
theorem pairB_eq (p : PV) : pairB p = textB (kb p.key) ++ gB p :: textB (nb p) := by
  unfold pairB gB nb
  split
  · rfl
  · rfl
theorem str_of (W : World) (A : Option Addr) (n c : Nat) (xs : List UInt8) (hn : n = xs.length) (h : Bs W A xs) : (convert 30 9 (.slice A n c)).run Tryz.prog W = .ok (.string ⟨xs.toArray⟩) W := by
  subst hn
  cases A with
  | none =>
    have h0 := h.1 rfl
    subst h0
    exact (run_convert_bytes_string W 30 9 5 none 0 c Tryz.underlying30 Tryz.underlying5 Tryz.underlying9).trans rfl
  | some ad =>
    exact run_convert_bytes_back W 30 9 5 ad c xs Tryz.underlying30 Tryz.underlying5 Tryz.underlying9 fun j hj => bs_at h (List.getElem?_eq_getElem hj)
theorem kb_back (s : ByteArray) : (⟨(kb s).toArray⟩ : ByteArray) = s := by cases s; simp [kb]
theorem own_one {W : World} {base : Nat} {v : Value} {g : UInt8} (h : W.ownsRow base 5 1 v 1 [bv g]) : ∃ G c, v = .slice (some ⟨G, 0, none⟩) 1 c ∧ base ≤ G ∧ W.cell? ⟨G, 0, none⟩ = some (.int .u8 (g.toNat : Nat)) := by
  obtain ⟨A, c, rfl, -, hb, -, -⟩ := Bs.of_own (xs := [g]) h
  rcases h.2 with ⟨hv, hn⟩ | ⟨G, cap, cur, hv, hG, -⟩
  · omega
  · simp only [Value.slice.injEq] at hv
    obtain ⟨rfl, -, -⟩ := hv
    exact ⟨G, c, rfl, hG, by simpa [Addr.add] using bs_at (k := 0) hb rfl⟩
/-- A structure in a cell, and a number. -/
theorem results_row_tmp {P : Program} {fn : Func} {p u : Tmp} {ty : TypeId} (h : fn.results = #[.cell p ty, .tmp u]) (tmps : Array Value) (w : World) (g : Nat) (t : TypeId) (cs : Array Value) (fr : Nat × Nat) (d : TypeDesc)
    (hp : tmps.getD p undef = .pointer (some ⟨g, 0, none⟩)) (hg : w.heap[g]? = some (.cells cs t fr))
    (hu : P.underlying ty = some d) (hd : (match d with | .struct _ | .array _ _ => true | _ => false) = true) (hi : (P.info? ty).map (·.size) = some cs.size) :
    (results fn tmps).run P w = .ok (.tuple #[.agg cs, tmps.getD u undef]) w := by
  have hp' : tmps[p]?.getD undef = .pointer (some ⟨g, 0, none⟩) := by simpa using hp
  simp [results, h, hp', asAddr, Go.run_loadVar_row w g t ty cs fr d hg hu hd hi]
end Go.Proofs.YtibalgfejfjndaaGreatDoor
end

/-! keyed.Take over bytes that were made. -/
section
set_option linter.unusedVariables false
set_option linter.unusedSimpArgs false
namespace Go.Proofs.YtibalgfejfjndaaGreatDoor
open Go.RowKit

/-- What of a pair is read again. -/
def normP (p : PV) : ByteArray × List UInt8 × Bool := (p.key, nb p, p.gone)
theorem drop_flat (ps : List PV) (i : Nat) (p : PV) (hp : ps[i]? = some p) : (ps.drop i).flatMap pairB = pairB p ++ (ps.drop (i + 1)).flatMap pairB := by
  rw [List.drop_eq_getElem_cons (List.getElem?_eq_some_iff.1 hp).1, List.flatMap_cons, (List.getElem?_eq_some_iff.1 hp).2]
end Go.Proofs.YtibalgfejfjndaaGreatDoor
end

/-! crc: the table (lines of wip/finger, turned). -/
section
set_option linter.unusedVariables false
set_option linter.unusedSimpArgs false
namespace Go.Proofs.YtibalgfejfjndaaGreatDoor
open Go.RowKit

/-- e. -/
def cE0 : Nat := 2197175160
/-- One bit. -/
def cstepB (v : Nat) : Nat := if v % 2 = 1 then (v / 2) ^^^ cE0 else v / 2
def cstp : Nat → Nat → Nat
  | 0, v => v
  | k + 1, v => cstepB (cstp k v)
theorem cE0_lt : cE0 < 4294967296 := by decide
theorem cxor_lt {a b : Nat} (ha : a < 4294967296) (hb : b < 4294967296) : a ^^^ b < 4294967296 := by
  have : a ^^^ b < 2 ^ 32 := Nat.xor_lt_two_pow (by omega) (by omega)
  omega
theorem cstepB_lt {v : Nat} (h : v < 4294967296) : cstepB v < 4294967296 := by
  unfold cstepB
  split
  · exact cxor_lt (by omega) cE0_lt
  · omega
theorem cstp_lt (k : Nat) {v : Nat} (h : v < 4294967296) : cstp k v < 4294967296 := by
  induction k with
  | zero => exact h
  | succ k ih => exact cstepB_lt ih
/-- The remainder of each byte. -/
def ctab (j : Nat) : Nat := cstp 8 j
theorem bits_xor_u32_nat (a b : Nat) (ha : a < 4294967296) (hb : b < 4294967296) : bits .xor .u32 (a : Int) (b : Int) = ((a ^^^ b : Nat) : Int) := by
  have hx : a ^^^ b < 2 ^ 32 := Nat.xor_lt_two_pow (by omega) (by omega)
  have h1 : (BitVec.ofInt 32 (a : Int)).toNat = a := by
    rw [BitVec.ofInt_natCast, BitVec.toNat_ofNat]; exact Nat.mod_eq_of_lt (by omega)
  have h2 : (BitVec.ofInt 32 (b : Int)).toNat = b := by
    rw [BitVec.ofInt_natCast, BitVec.toNat_ofNat]; exact Nat.mod_eq_of_lt (by omega)
  show IntKind.u32.wrap ((BitVec.ofInt 32 (a : Int) ^^^ BitVec.ofInt 32 (b : Int)).toNat : Int) = _
  rw [BitVec.toNat_xor, h1, h2, IntKind.wrap_u32]
  omega
def cw (v : Nat) : Value := .int .u32 (v : Int)
theorem cand_one (v : Nat) (h : v < 4294967296) : bits .and .u32 (v : Int) 1 = ((v % 2 : Nat) : Int) := by
  have h1 : (BitVec.ofInt 32 (v : Int)).toNat = v := by
    rw [BitVec.ofInt_natCast, BitVec.toNat_ofNat]; exact Nat.mod_eq_of_lt (by omega)
  show IntKind.u32.wrap ((BitVec.ofInt 32 (v : Int) &&& BitVec.ofInt 32 (1 : Int)).toNat : Int) = _
  rw [BitVec.toNat_and, h1, IntKind.wrap_u32, show (BitVec.ofInt 32 (1 : Int)).toNat = 1 from by decide, Nat.and_one_is_mod]
  omega
theorem zeroTab : ∀ w, (zeroValue 142).run Tryz.prog w = .ok (.agg (Array.replicate 256 (.int .u32 0))) w := fun w => by kernel_rfl
theorem infoTab : (Tryz.prog.info? 142).map (·.size) = some 256 := by kernel_rfl
theorem wpL_alloc {P : Program} (w : World) {ops : Array Oper} {rest : List Oper} {o : Oper} {a : Act} {Q : Exit → Act → World → Prop}
    (hg : o.guard = none) (t : TypeId) (hop : o.op = Op.alloc t) (z : Value) (hz : ∀ w, (zeroValue t).run P w = .ok z w)
    (hK : wpList P ops Q rest (a.put o.dst (.pointer (some ⟨w.heap.size, 0, none⟩))) (w.alloc (.cells z.cells t))) :
    wpList P ops Q (o :: rest) a w := by
  refine wpList_plain hg fun K hK' => ?_
  unfold Oper.wp
  simp [execOp, hop, Instr.alloc, hz, newVar, newRow, go_sem]
  exact hK' _ _ hK

/-- A block of words of the call's own: its first cells are known. -/
def Wds (w : World) (B k : Nat) (f : Nat → Nat) : Prop :=
  ∃ cur : Array Value, w.heap[B]? = some (.cells cur 142 (0, 0)) ∧ cur.size = 256 ∧ (∀ j, j < 256 → ∃ n : Nat, cur[j]? = some (cw n)) ∧ ∀ (j : Nat), j < k → cur[j]? = some (cw (f j))
theorem Wds.cell {w : World} {B k : Nat} {f : Nat → Nat} (h : Wds w B k f) (j : Nat) (hj : j < 256) : ∃ n : Nat, w.cell? ⟨B, j, none⟩ = some (.int .u32 n) := by
  obtain ⟨cur, h1, h2, h3, h4⟩ := h
  obtain ⟨n, hn⟩ := h3 j hj
  exact ⟨n, by simp [World.cell?, h1, hn, cw]⟩
theorem Wds.at {w : World} {B k : Nat} {f : Nat → Nat} (h : Wds w B k f) (j : Nat) (hj : j < k) : w.cell? ⟨B, j, none⟩ = some (.int .u32 (f j)) := by
  obtain ⟨cur, h1, h2, h3, h4⟩ := h
  simp [World.cell?, h1, h4 j hj, cw]
theorem Wds.frozen {w : World} {B k : Nat} {f : Nat → Nat} (h : Wds w B k f) (j : Nat) : w.frozen? ⟨B, j, none⟩ = false := by
  obtain ⟨cur, h1, h2, h3⟩ := h
  simp [World.frozen?, h1]
theorem Wds.push {w : World} {B k : Nat} {f : Nat → Nat} (h : Wds w B k f) (v : Int) (hv : v = (f k : Nat)) (hk : k < 256) : Wds (w.setCell ⟨B, k, none⟩ (.int .u32 v)) B (k + 1) f := by
  obtain ⟨cur, h1, h2, h3, h4⟩ := h
  subst hv
  refine ⟨cur.setIfInBounds k (cw (f k)), ?_, by simp [h2], ?_, ?_⟩
  · simp only [World.setCell, Array.getElem?_modify, if_true, h1]; rfl
  · intro j hj
    by_cases e : k = j
    · subst e; exact ⟨_, Array.getElem?_setIfInBounds_self_of_lt (by omega)⟩
    · rw [Array.getElem?_setIfInBounds_ne e]; exact h3 j hj
  · intro j hj
    by_cases e : k = j
    · subst e; exact Array.getElem?_setIfInBounds_self_of_lt (by omega)
    · rw [Array.getElem?_setIfInBounds_ne e]; exact h4 j (by omega)
def ctabV (f : Nat → Nat) : Array Value := Array.ofFn fun i : Fin 256 => cw (f i)
theorem ctabV_size (f : Nat → Nat) : (ctabV f).size = 256 := by simp [ctabV]
theorem ctabV_one (f : Nat → Nat) : (ctabV f).all (·.oneCell') = true := by
  rw [Array.all_eq_true]
  intro i hi
  simp [ctabV, cw, Value.oneCell']
theorem Wds.full {w : World} {B : Nat} {f : Nat → Nat} (h : Wds w B 256 f) : w.heap[B]? = some (.cells (ctabV f) 142 (0, 0)) := by
  obtain ⟨cur, h1, h2, h3, h4⟩ := h
  have : cur = ctabV f := by
    unfold ctabV
    apply Array.ext
    · simp [h2]
    · intro i hi1 hi2
      have := h4 i (by omega)
      rw [Array.getElem?_eq_getElem hi1] at this
      simpa using this
  rw [h1, this]
theorem Wds.new (w : World) (f : Nat → Nat) : Wds (w.alloc (.cells (Array.replicate 256 (.int .u32 0)) 142)) w.heap.size 0 f :=
  ⟨_, heap_alloc_new w _, by simp, fun j hj => ⟨0, by simp [hj, cw]⟩, fun j hj => by omega⟩

set_option maxRecDepth 100000 in
set_option maxHeartbeats 400000 in
theorem crcTable_any (w : World) : Calls Tryz.prog 93 #[] w fun e w' => e = .returned (.agg (ctabV ctab)) ∧ Below w.heap.size w w' := by
  obtain ⟨cs, hcs⟩ : ∃ cs : Array Value, cs = Array.replicate 256 (.int .u32 0) := ⟨_, rfl⟩
  have hz := zeroTab
  rw [← hcs] at hz
  have Hz := Lib.hid hz
  have Hcs := Lib.hid hcs
  clear hz hcs
  go_enter Tryz.func93, Tryz.ntmps93
  go_wp2_with (first | (refine wpL_alloc _ rfl 142 rfl (.agg cs) Hz.out ?_))
  have h0 : (w.alloc (.cells cs 142)).heap[w.heap.size]? = some (.cells cs 142 (0, 0)) := heap_alloc_new w _
  go_loopw [2, 3, 4] (fun _ _ i wr => ∃ k : Nat, k ≤ 256 ∧ i = .int .i64 k ∧ Wds wr (w.heap.size + 1) k ctab ∧ wr.heap[w.heap.size]? = some (.cells cs 142 (0, 0)) ∧ Below w.heap.size w wr) (fun _ _ i _ => 256 - (intOf i).toNat)
  case atStart =>
    refine ⟨0, by omega, by simp, ?_, ?_, ((Below.refl _ _).alloc (Nat.le_refl _) _).alloc (by simp) _⟩
    · have := Wds.new (w.alloc (.cells cs 142)) ctab
      simp only [World.size_alloc] at this
      rw [← Hcs.out] at this
      exact this
    · rw [heap_alloc_old _ _ (by simp)]; exact h0
  case round =>
    obtain ⟨k, hk, rfl, hr, hr0, hB⟩ := hrel
    have HB := Lib.hid hB
    have HR := Lib.hid hr
    have HR0 := Lib.hid hr0
    clear hB hr hr0 h0
    by_cases hlt : k < 256
    · go_wp2
      go_loop [3, 9] (fun v i => ∃ j x : Nat, j ≤ 8 ∧ i = .int .i64 j ∧ v = .int .u32 x ∧ Hid (x = cstp j k)) (fun _ i => 8 - (intOf i).toNat)
      case atStart => exact ⟨0, k, by omega, rfl, rfl, Lib.hid rfl⟩
      case round =>
        obtain ⟨j, x, hj, rfl, rfl, hx⟩ := hrel
        have hxl : x < 4294967296 := by rw [hx.out]; exact cstp_lt j (by omega)
        by_cases hj8 : j < 8
        · have ha := cand_one x hxl
          by_cases hodd : x % 2 = 1
          · have ht : (bits .and .u32 (x : Int) 1 != 0) = true := by rw [ha, hodd]; rfl
            have HX := Lib.hid (show bits .xor .u32 ((x : Int) / 2) 2197175160 = ((cstp (j + 1) k : Nat) : Int) by
              rw [cstp, ← hx.out, cstepB, if_pos hodd]; exact bits_xor_u32_nat (x / 2) cE0 (by omega) cE0_lt)
            clear ha hodd
            have Hxl := Lib.hid hxl
            clear hxl
            go_wp2
            go_round
            case rel => exact ⟨j + 1, cstp (j + 1) k, by omega, by go_num, by rw [HX.out], Lib.hid rfl⟩
            case measure => simp [intOf]; omega
          · have ht : (bits .and .u32 (x : Int) 1 != 0) = false := by rw [ha, show x % 2 = 0 by omega]; rfl
            have HX := Lib.hid (show (x : Int) / 2 = ((cstp (j + 1) k : Nat) : Int) by
              rw [cstp, ← hx.out, cstepB, if_neg hodd]; omega)
            clear ha hodd
            have Hxl := Lib.hid hxl
            clear hxl
            go_wp2
            go_round
            case rel => exact ⟨j + 1, cstp (j + 1) k, by omega, by go_num, by rw [HX.out], Lib.hid rfl⟩
            case measure => simp [intOf]; omega
        · obtain rfl : j = 8 := by omega
          obtain ⟨n, hc⟩ := HR.out.cell k hlt
          have hf := HR.out.frozen k
          have Hxl := Lib.hid hxl
          clear hxl
          go_wp2
          go_roundw
          case rel => exact ⟨k + 1, by omega, by go_num, HR.out.push _ (by rw [hx.out]; rfl) hlt, by rw [Below.heap_setCell _ _ _ _ (by simp)]; exact HR0.out, HB.out.setCell (by simp) _⟩
          case measure => simp [intOf]; omega
    · obtain rfl : k = 256 := by omega
      go_wp2_with (first | (refine wpList_load_row rfl 142 _ rfl (w.heap.size + 1) rfl 142 _ (0, 0) _ HR.out.full Tryz.underlying142 rfl (by rw [infoTab, ctabV_size]) ?_) | (refine wpList_store_row rfl 142 _ _ rfl w.heap.size _ rfl rfl 142 cs HR0.out (by rw [infoTab, ctabV_size]) (by rw [Hcs.out, ctabV_size]; simp) (ctabV_one _) ?_))
      exact bodyPost_ret (v := .agg (ctabV ctab)) (results_cell_row rfl _ _ w.heap.size 142 _ (0, 0) _ rfl (setRow_heap _ _ _ _ _ _ HR0.out) Tryz.underlying142 rfl (by rw [infoTab, ctabV_size])) rfl ⟨rfl, below_setRow HB.out (Nat.le_refl _) _⟩

end Go.Proofs.YtibalgfejfjndaaGreatDoor
end

/-! slices.Values over bytes; crc.Add, Sum. -/
section
set_option linter.unusedVariables false
set_option linter.unusedSimpArgs false
namespace Go.Proofs.YtibalgfejfjndaaGreatDoor
open Go.RowKit Go.Sort
attribute [local go_sem] Oper.semAt_some

def Bc (w : World) (A : Option Addr) (xs : List UInt8) : Prop := ∀ (j : Nat) x, xs[j]? = some x → ∃ ad, A = some ad ∧ w.cell? (ad.add j) = some (bv x)
theorem Bc.same {w w' : World} {A : Option Addr} {ns : List UInt8} (h : Bc w A ns) (hk : ∀ k, rdOf A k → w'.heap[k]? = w.heap[k]?) : Bc w' A ns := by
  intro j x hx
  obtain ⟨ad, rfl, hc⟩ := h j x hx
  exact ⟨ad, rfl, (World.cell?_of_block (by rw [add_block]; exact hk _ ⟨ad, rfl, rfl⟩)).trans hc⟩
theorem Bs.c {w : World} {A : Option Addr} {xs : List UInt8} (h : Bs w A xs) : Bc w A xs := by
  intro j x hx
  cases A with
  | none => rw [h.1 rfl] at hx; simp at hx
  | some ad => exact ⟨ad, rfl, h.2 ad rfl j _ (by rw [List.getElem?_map, hx]; rfl)⟩
set_option maxRecDepth 100000 in
set_option maxHeartbeats 1000000 in
theorem valuesB_iter (B n c : Nat) (A : Option Addr) (ns : List UInt8) (w : World) (hb : Boxed w B 30 (.slice A n c)) (hn : n = ns.length) (hl : n ≤ 1000000) (hs : Bc w A ns) (hA : ∀ ad, A = some ad → ns = [] ∨ ad.block < w.heap.size) :
    Iter Tryz.prog 101 #[.pointer (some ⟨B, 0, none⟩)] (fun x : UInt8 => #[bv x]) (fun _ => False) (fun k => ns ≠ [] ∧ rdOf A k) ns w := by
  intro l J Jx W hW hJ hJx hY h0
  refine callsIn_of_wp Tryz.func101 rfl trivial ?_ rfl
  have hb' : Boxed W B 30 (.slice A n c) := hW.heap hb (by simp)
  have hcp := hb'.cell
  have HS : Hid (Bc W A ns) := Lib.hid (by
    by_cases he : ns = []
    · subst he; intro j p hp; simp at hp
    · exact hs.same fun k ⟨ad, e, e2⟩ => hW.block k (by rw [← e2]; exact (hA ad e).resolve_left he) (by simp))
  have Hn := Lib.hid hn
  have HY := Lib.hid hY
  have H0 := Lib.hid h0
  clear hb hb' hY hs hA hn h0
  simp only [Tryz.ntmps101, List.size_toArray, List.length_cons, List.length_nil, Nat.reduceAdd, Nat.reduceSub, Array.replicate_succ, Array.replicate_zero, List.push_toArray, List.append_toArray, List.nil_append, List.cons_append]
  gi_wp2
  gi_loopw [4, 7] (fun _ i wr => ∃ j : Nat, i = .int .i64 j ∧ j ≤ n ∧ Hid (J (ns.take j) wr) ∧ Hid (Bc wr A ns)) (fun _ i _ => n - iNat i)
  case atStart => exact ⟨0, rfl, by omega, Lib.hid (by simpa using H0.out), HS⟩
  case round =>
    obtain ⟨j, rfl, hj, hJ1, hS1⟩ := hrel
    by_cases hlt : j < n
    · have hlt' : (j : Int) < (n : Int) := by omega
      have hjn : j < ns.length := by have := Hn.out; omega
      obtain ⟨x, hx⟩ : ∃ x, ns[j]? = some x := ⟨_, List.getElem?_eq_getElem hjn⟩
      have hd : ns.drop j = x :: ns.drop (j + 1) := by
        rw [List.drop_eq_getElem_cons hjn, (List.getElem?_eq_some_iff.1 hx).2]
      obtain ⟨ad, rfl, hc⟩ := hS1.out j x hx
      obtain ⟨fn, tmps, assign, body, hy, hR⟩ := HY.out (ns.take j) x (ns.drop (j + 1)) wr (by rw [← hd, List.take_append_drop]) hJ1.out
      unfold bv at hy hc
      have HR := Lib.hid hR
      have Hx := Lib.hid hx
      have Hd := Lib.hid hd
      clear hR hjn hx hd
      gi_wp2
      refine HR.out.mono ?_
      rintro e W3 (⟨rfl, hJ3, _, hk3⟩ | ⟨rfl, hJx3⟩)
      · have HJ3 := Lib.hid hJ3
        have HS3 := Lib.hid (hS1.out.same fun k hk => hk3 k ⟨by intro e; have := Hn.out; rw [e] at this; simp at this; omega, hk⟩)
        clear hJ3 hk3
        gi_wp2
        go_roundw
        case rel =>
          refine ⟨j + 1, congrArg (Value.int .i64) (by omega), by omega, Lib.hid ?_, HS3⟩
          rw [List.take_add_one, Hx.out]
          exact HJ3.out
        case measure => simp only [iNat]; omega
      · gi_wp2
        refine bodyPost_ret (results_none rfl _ _ _) rfl ?_
        refine ⟨⟨_, rfl⟩, .inr ⟨_, ?_, hJx3⟩⟩
        refine ⟨ns.drop (j + 1), ?_⟩
        rw [List.append_assoc, List.singleton_append, ← Hd.out, List.take_append_drop]
    · have hlt' : ¬ (j : Int) < (n : Int) := by omega
      gi_wp2
      refine bodyPost_end (results_none rfl _ _ _) rfl ?_
      have : ns.take j = ns := List.take_of_length_le (by have := Hn.out; omega)
      exact ⟨⟨_, rfl⟩, .inl (by have h := hJ1.out; rw [this] at h; exact h)⟩
theorem valuesB_of (A : Option Addr) (n c : Nat) (w : World) : Calls Tryz.prog 94 #[.slice A n c] w fun e w' => e = .returned (.func (.func 101) #[] #[.pointer (some ⟨w.heap.size, 0, none⟩)]) ∧ w' = w.alloc (.cells #[.slice A n c] 30) := by
  go_enter Tryz.func94, Tryz.ntmps94
  go_wp2
  go_ret
  exact ⟨rfl, rfl⟩
/-- The sum of bytes. -/
def crcStep (v : Nat) (c : UInt8) : Nat := v / 256 ^^^ ctab (v % 256 ^^^ c.toNat)
def crcV (s : Nat) (b : List UInt8) : Nat := b.foldl crcStep (s ^^^ 4294967295)
def crcN (b : List UInt8) : Nat := crcV 0 b ^^^ 4294967295
theorem ctab_lt {q : Nat} (h : q < 256) : ctab q < 4294967296 := cstp_lt 8 (by omega)
theorem crcStep_lt {v : Nat} (c : UInt8) (h : v < 4294967296) : crcStep v c < 4294967296 := cxor_lt (by omega) (ctab_lt (Nat.xor_lt_two_pow (n := 8) (by omega) c.toNat_lt))
theorem crcV_lt {s : Nat} (b : List UInt8) (h : s < 4294967296) : crcV s b < 4294967296 := by
  unfold crcV
  have : ∀ (b : List UInt8) (v : Nat), v < 4294967296 → b.foldl crcStep v < 4294967296 := by
    intro b
    induction b with
    | nil => intro v h; exact h
    | cons c b ih => intro v h; exact ih _ (crcStep_lt c h)
  exact this b _ (cxor_lt h (by omega))
theorem crcV_snoc (s : Nat) (b : List UInt8) (c : UInt8) : crcV s (b ++ [c]) = crcStep (crcV s b) c := by simp [crcV, List.foldl_append]
theorem crcN_lt (b : List UInt8) : crcN b < 4294967296 := cxor_lt (crcV_lt b (by omega)) (by omega)
end Go.Proofs.YtibalgfejfjndaaGreatDoor
end

/-! crc.Add, crc.Sum. -/
section
set_option linter.unusedVariables false
set_option linter.unusedSimpArgs false
namespace Go.Proofs.YtibalgfejfjndaaGreatDoor
open Go.RowKit Go.Sort
attribute [local go_sem] Oper.semAt_some

theorem bits_xor_u8_nat (a b : Nat) (ha : a < 256) (hb : b < 256) : bits .xor .u8 (a : Int) (b : Int) = ((a ^^^ b : Nat) : Int) := by
  have hx : a ^^^ b < 2 ^ 8 := Nat.xor_lt_two_pow (by omega) (by omega)
  have h1 : (BitVec.ofInt 8 (a : Int)).toNat = a := by
    rw [BitVec.ofInt_natCast, BitVec.toNat_ofNat]; exact Nat.mod_eq_of_lt (by omega)
  have h2 : (BitVec.ofInt 8 (b : Int)).toNat = b := by
    rw [BitVec.ofInt_natCast, BitVec.toNat_ofNat]; exact Nat.mod_eq_of_lt (by omega)
  show IntKind.u8.wrap ((BitVec.ofInt 8 (a : Int) ^^^ BitVec.ofInt 8 (b : Int)).toNat : Int) = _
  rw [BitVec.toNat_xor, h1, h2, IntKind.wrap_u8]
  omega
set_option maxRecDepth 100000 in
theorem ixTab (B0 q : Nat) (hq : q < 256) (w : World) : (Instr.indexAt 142 (.pointer (some ⟨B0, 0, none⟩)) (.int .u8 (q : Int))).run Tryz.prog w = .ok (.pointer (some ⟨B0, q, none⟩)) w := by
  have h1 : Tryz.prog.arrayLen 142 = 256 := by kernel_rfl
  have h2 : (sizeOf (Tryz.prog.elem 142)).run Tryz.prog w = .ok 1 w := by kernel_rfl
  rw [run_indexAt_array (t := 142) (h := Tryz.underlying142), h1, h2, if_pos (by omega)]
  simp [Result.andThen, Addr.add]
  omega
set_option maxRecDepth 100000 in
set_option maxHeartbeats 4000000 in
theorem crcAdd_any (w : World) (A : Option Addr) (n c : Nat) (xs : List UInt8) (hn : n = xs.length) (hl : n ≤ 1000000) (h : Bs w A xs) :
    Calls Tryz.prog 86 #[.int .u32 0, .slice A n c] w fun e w' => e = .returned (.int .u32 (crcN xs : Nat)) ∧ Kept (fun _ => False) w w' := by
  have H := Lib.hid h
  have Hn := Lib.hid hn
  clear h hn
  obtain ⟨cs, hcs⟩ : ∃ cs : Array Value, cs = Array.replicate 256 (.int .u32 0) := ⟨_, rfl⟩
  have hz := zeroTab
  rw [← hcs] at hz
  have Hz := Lib.hid hz
  have Hcs := Lib.hid hcs
  clear hz hcs
  obtain ⟨tv, htv⟩ : ∃ tv, tv = ctabV ctab := ⟨_, rfl⟩
  have HT := Lib.hid crcTable_any
  rw [← htv] at HT
  have Htv := Lib.hid htv
  clear htv
  have hx0 : bits .xor .u32 0 4294967295 = 4294967295 := by
    have := bits_xor_u32_nat 0 4294967295 (by omega) (by omega)
    rw [Nat.zero_xor] at this
    exact this
  refine calls_of_marks Tryz.func86 rfl ?_
  simp only [Tryz.ntmps86, List.size_toArray, List.length_cons, List.length_nil, Nat.reduceAdd, Nat.reduceSub, Array.replicate_succ, Array.replicate_zero, List.push_toArray, List.append_toArray, List.nil_append, List.cons_append]
  go_wp2_with (first
    | (go_at_call 93; refine (HT.out _).mono ?_; rintro e w1 ⟨rfl, hB1⟩; have HB1 := Lib.hid hB1; clear hB1)
    | (refine wpL_alloc _ rfl 142 rfl (.agg cs) Hz.out ?_)
    | (refine wpList_store_row rfl 142 _ _ rfl w1.heap.size tv rfl rfl 142 cs (heap_alloc_new w1 _) (by rw [infoTab, Htv.out, ctabV_size]) (by rw [Hcs.out, Htv.out, ctabV_size]; simp) (by rw [Htv.out]; exact ctabV_one _) ?_)
    | (go_at_call 94; refine (valuesB_of _ _ _ _).mono ?_; rintro e w' ⟨rfl, rfl⟩))
  obtain ⟨W0, hW0⟩ : ∃ W0, W0 = ((((w1.alloc (.cells cs 142)).setRow w1.heap.size tv).alloc (.cells #[.int .u32 4294967295] 121)).alloc (.cells #[.slice A n c] 30)) := ⟨_, rfl⟩
  rw [← hW0]
  obtain ⟨B0, hB0⟩ : ∃ B0, B0 = w1.heap.size := ⟨_, rfl⟩
  have hsz : W0.heap.size = B0 + 3 := by rw [hW0, hB0]; simp
  have hBW : Below w.heap.size w W0 := by
    rw [hW0]
    exact ((below_setRow (HB1.out.alloc HB1.out.size _) HB1.out.size _).alloc (by simp; have := HB1.out.size; omega) _).alloc (by simp; have := HB1.out.size; omega) _
  have hkW : Kept (fun _ => False) w W0 := Kept.of_below hBW _ (fun k h1 h2 => by omega)
  have hT0 : W0.heap[B0]? = some (.cells tv 142 (0, 0)) := by
    rw [hW0, hB0, heap_alloc_old _ _ (by simp; omega), heap_alloc_old _ _ (by simp)]
    exact setRow_heap _ _ _ _ _ _ (heap_alloc_new w1 _)
  have hV0 : Boxed W0 (B0 + 1) 121 (.int .u32 4294967295) := by
    have := (Boxed.new ((w1.alloc (.cells cs 142)).setRow w1.heap.size tv) 121 (.int .u32 4294967295)).alloc (.cells #[.slice A n c] 30)
    rw [hW0, hB0]; simpa using this
  have hS0 : Boxed W0 (B0 + 1 + 1) 30 (.slice A n c) := by
    have := (Boxed.new (((w1.alloc (.cells cs 142)).setRow w1.heap.size tv).alloc (.cells #[.int .u32 4294967295] 121)) 30 (.slice A n c))
    rw [hW0, hB0]; simpa using this
  have hsle : w.heap.size ≤ B0 := by rw [hB0]; exact HB1.out.size
  clear hW0
  rw [← hB0]
  clear hB0
  have hblk : ∀ ad, A = some ad → xs = [] ∨ ad.block < w.heap.size := by
    intro ad e
    cases hxs : xs with
    | nil => exact .inl rfl
    | cons q ms' =>
      have hc' := H.out.2 ad e 0 (bv q) (by rw [hxs]; rfl)
      have := World.block_lt_of_cell? w _ hc'
      rw [add_block] at this
      exact .inr this
  have hit := valuesB_iter (B0 + 1 + 1) n c A xs W0 hS0 Hn.out hl (H.out.kept hkW (by simp)).c (fun ad e => (hblk ad e).imp id fun h => by omega)
  refine wp_range (gf := 101) rfl (enters_of Tryz.func101 (by kernel_rfl) rfl) hit (fun _ => rfl) (fun k h => h.elim) (fun k ⟨hne, ad, e, e2⟩ => by rw [← e2]; have := (hblk ad e).resolve_left hne; omega)
    (fun pre W => W.heap[B0]? = some (.cells tv 142 (0, 0)) ∧ Boxed W (B0 + 1) 121 (.int .u32 (crcV 0 pre : Nat)) ∧ Kept (fun _ => False) w W)
    (fun c pre W => False)
    (fun pre A C h hk => ⟨hk.heap h.1 (fun e => by rcases e with e | e | e; exact e; omega; omega), hk.heap h.2.1 (fun e => by rcases e with e | e | e; exact e; omega; omega), h.2.2.trans hk fun i hi e => by rcases e with e | e | e; exact e; omega; omega⟩)
    (fun c pre A C h hk => h.elim)
    ⟨hT0, hV0, hkW⟩
    (fun x => { tmps := #[.int .u32 0, .slice A n c, undef, undef, .int .u32 0, .pointer (some ⟨B0, 0, none⟩), .pointer (some ⟨B0 + 1, 0, none⟩), bv x, .agg tv, .int .u32 0, .int .u32 4294967295, .slice A n c, .func (.func 101) #[] #[.pointer (some ⟨B0 + 1 + 1, 0, none⟩)], bv x, undef, undef, undef, undef, undef, undef, undef, undef, undef, undef, undef], defers := [] }) ?assign ?body ?done ?stop
  case assign =>
    intro l x W K hK
    gi_wp2
    exact hK
  case body =>
    rintro l pre x post W hxs ⟨hT, hV, hk⟩ hsz2
    have hpl : crcV 0 pre < 4294967296 := crcV_lt pre (by omega)
    obtain ⟨p, hp⟩ : ∃ p, p = crcV 0 pre := ⟨_, rfl⟩
    rw [← hp] at hV hpl
    have hc := hV.cell
    have hf := hV.frozen
    have hxl : x.toNat < 256 := x.toNat_lt
    obtain ⟨q, hq⟩ : ∃ q, q = p % 256 ^^^ x.toNat := ⟨_, rfl⟩
    have hq8 : q < 256 := by rw [hq]; exact Nat.xor_lt_two_pow (n := 8) (by omega) hxl
    have hxr : bits .xor .u8 (IntKind.u8.wrap (p : Int)) (x.toNat : Int) = (q : Int) := by rw [hq, show IntKind.u8.wrap (p : Int) = ((p % 256 : Nat) : Int) by rw [IntKind.wrap_u8]; omega]; exact bits_xor_u8_nat _ _ (by omega) hxl
    have hct : W.cell? ⟨B0, q, none⟩ = some (.int .u32 (ctab q : Nat)) := by simp [World.cell?, hT, Htv.out, ctabV, hq8, cw]
    have hq9 : (q : Int) < 256 := by omega
    have hxx : bits .xor .u32 ((p : Int) / 256) (ctab q : Nat) = ((crcV 0 (pre ++ [x]) : Nat) : Int) := by
      rw [crcV_snoc, ← hp, crcStep, ← hq]
      exact bits_xor_u32_nat (p / 256) (ctab q) (by omega) (ctab_lt hq8)
    have Hxx := Lib.hid hxx
    have HV := Lib.hid hV
    have HT' := Lib.hid hT
    have HK := Lib.hid hk
    have HS2 := Lib.hid hsz2
    have hix := ixTab B0 q hq8
    have Hrd : Hid (∀ k, (xs ≠ [] ∧ rdOf A k) → k < w.heap.size) := Lib.hid fun k ⟨hne, ad, e, e2⟩ => by rw [← e2]; exact (hblk ad e).resolve_left hne
    unfold bv
    clear hp hV hT hq hpl hxx hk hit hxs hblk hsz2 hT0 hV0 hS0 hkW hBW
    gi_wp2
    refine wpIn_still_drew 9 (by kernel_rfl) (by kernel_rfl) (by kernel_rfl) (fun ⟨_, _, h⟩ => h) ?_
    simp only [List.take_succ_cons, List.take_zero, List.drop_succ_cons, List.drop_zero]
    repeat still_step
    refine wpStill_nil ?_
    go_wp2
    rw [Hxx.out]
    have hk9 : Kept (fun k => k = B0 + 1) W (W.setCell ⟨B0 + 1, 0, none⟩ (.int .u32 (crcV 0 (pre ++ [x]) : Nat))).drew := ((Kept.refl (fun k => k = B0 + 1) W).setCell (fun _ => rfl) _).drew
    have h2 := HS2.out
    refine ⟨⟨hk9.size, fun k hk => hk9.block k (by rcases hk with hk | hk | hk; have := Hrd.out k hk; omega; omega; omega) (by rcases hk with hk | hk | hk; have := Hrd.out k hk; omega; omega; omega)⟩, hk9.heap HT'.out (by omega), HV.out.set _, HK.out.trans hk9 fun i hi e => by omega⟩
  case done =>
    rintro W ⟨hT, hV, hk⟩ hD
    have bo := hV.cell
    have HK := Lib.hid hk
    have HD := Lib.hid hD
    have hcl := crcV_lt (s := 0) xs (by omega)
    have hfin : bits .xor .u32 (crcV 0 xs : Nat) 4294967295 = ((crcN xs : Nat) : Int) := bits_xor_u32_nat (crcV 0 xs) 4294967295 hcl (by omega)
    have Hf := Lib.hid hfin
    clear hT hV hk hD hit hcl hfin
    go_wp2
    refine leave_mark' HD.out (v := .int .u32 (bits .xor .u32 (crcV 0 xs : Nat) 4294967295)) (show _ = Result.ok _ _ from results_tmp (t := 4) rfl _ _ _) ⟨by rw [Hf.out], ?_⟩
    exact HK.out.trans (putObj_kept W W0.heap.size (.deferred none)) fun i hi e => by omega
  case stop =>
    intro c pre W _ h
    exact h.elim
set_option maxHeartbeats 1000000 in
theorem crcSum_any (w : World) (A : Option Addr) (n c : Nat) (xs : List UInt8) (hn : n = xs.length) (hl : n ≤ 1000000) (h : Bs w A xs) :
    Calls Tryz.prog 68 #[.slice A n c] w fun e w' => e = .returned (.int .u32 (crcN xs : Nat)) ∧ Kept (fun _ => False) w w' := by
  have H := Lib.hid (crcAdd_any w A n c xs hn hl h)
  clear h hn
  go_enter Tryz.func68, Tryz.ntmps68
  go_wp2_with (go_at_call 86; refine H.out.mono ?_; rintro e w1 ⟨rfl, hk⟩; have HK := Lib.hid hk; clear hk)
  go_ret
  exact ⟨rfl, HK.out⟩
end Go.Proofs.YtibalgfejfjndaaGreatDoor
end

/-! slices.All over bytes that a round writes; a range over it. -/
section
set_option linter.unusedVariables false
set_option linter.unusedSimpArgs false
namespace Go.Proofs.YtibalgfejfjndaaGreatDoor
open Go.RowKit Go.Sort
attribute [local go_sem] Oper.semAt_some

/-- The iterator gf (with what it has captured, lb) tells xs, in order, or a part, a round having said 'no more'. It writes blocks of 'own' alone (and new ones); it asks of a round that goes on that the blocks of 'rd' stay. -/
def IterC {α : Type} (P : Program) (gf : Nat) (lb : Array Value) (encs : α → Array Value) (own rd : Nat → Prop) (C : List α → World → Prop) (xs : List α) (w : World) : Prop :=
  ∀ (l : Nat) (J Jx : List α → World → Prop) (W : World), Kept (fun _ => False) w W →
    (∀ pre A B, J pre A → Kept own A B → J pre B) → (∀ pre A B, Jx pre A → Kept own A B → Jx pre B) →
    (∀ pre W, J pre W → C pre W) →
    (∀ pre x post W1, xs = pre ++ x :: post → J pre W1 → YieldAt Fence.wide 7 P l (encs x) W1 fun e W' =>
      (e = .returned (.bool true) ∧ J (pre ++ [x]) W' ∧ W1.heap.size ≤ W'.heap.size ∧ ∀ k, rd k → W'.heap[k]? = W1.heap[k]?) ∨ (e = .returned (.bool false) ∧ Jx (pre ++ [x]) W')) →
    J [] W →
    CallsIn Fence.wide 8 P gf (#[.func (.yield l) #[] #[]] ++ lb) W fun e W' => (∃ v, e = .returned v) ∧ (J xs W' ∨ ∃ pre, pre <+: xs ∧ Jx pre W')

/-- The law. D: the block of the rounds' deferred calls; D + 1: the loop's record. -/
theorem wp_rangeC {α : Type} {P : Program} {g : Operand} {ps : Array Tmp} {assign body : Code} {Q : Exit → Act → World → Prop} {a : Act} {w : World}
    {gf : Nat} {lb : Array Value} (hg : a.eval g = .func (.func gf) #[] lb) (eg : ∀ args w, (callFunc gf args).run P w = .ok (.enter gf args) w)
    {encs : α → Array Value} {own rd : Nat → Prop} {C : List α → World → Prop} {xs : List α} (hit : IterC P gf lb encs own rd C xs w) (hps : ∀ x, (encs x).size = ps.size)
    (ho : ∀ k, own k → k < w.heap.size) (hr : ∀ k, rd k → k < w.heap.size)
    (I : List α → World → Prop) (Ix : Code → List α → World → Prop)
    (hC : ∀ pre W, I pre W → C pre W)
    (hI : ∀ pre A B, I pre A → Kept (fun k => own k ∨ k = w.heap.size ∨ k = w.heap.size + 1) A B → I pre B)
    (hIx : ∀ c pre A B, Ix c pre A → Kept (fun k => own k ∨ k = w.heap.size ∨ k = w.heap.size + 1) A B → Ix c pre B)
    (h0 : I [] w) (a₁ : α → Act)
    (hassign : ∀ (l : Nat) (x : α) (W : World) (K : Act → World → Prop), K (a₁ x) W →
      assign.wpIn (Fence.wide.inRound l) 7 P (Exit.then K (fun _ _ _ => False)) { tmps := (ps.zip (encs x)).foldl (fun t (p, v) => t.setIfInBounds p v) a.tmps, defers := [] } W)
    (hbody : ∀ (l : Nat) (pre : List α) (x : α) (post : List α) (W : World), xs = pre ++ x :: post → I pre W → w.heap.size + 2 ≤ W.heap.size → body.wpIn (Fence.wide.inRound l) 7 P (roundPost w.heap.size rd I Ix (pre ++ [x]) W) (a₁ x) W)
    (hdone : ∀ (W : World), I xs W → W.heap[w.heap.size]? = some (.deferred (some [])) → Q .normal { a with defers := { target := .collected w.heap.size, args := #[] } :: a.defers } W)
    (hstop : ∀ (c : Code) (pre : List α) (W : World), pre <+: xs → Ix c pre W → W.heap[w.heap.size]? = some (.deferred (some [])) → c.wp P Q { a with defers := { target := .collected w.heap.size, args := #[] } :: a.defers } W) :
    (Code.rangeFunc g ps assign body).wp P Q a w := by
  refine (wpIn_wide (n := 9)).1 (wpIn_rangeFunc ?_)
  intro fn hfn
  obtain ⟨rec, hrec⟩ : ∃ rec : LoopState → Option Code → Loop, rec = fun st pe => { state := st, pending := pe, fn, tmps := a.tmps, params := ps, assign, body, defers := w.heap.size } := ⟨_, rfl⟩
  obtain ⟨W1, hW1⟩ : ∃ W1, (w.alloc (.deferred (some []))).alloc (.loop (rec .ready none)) = W1 := ⟨_, rfl⟩
  have hL1 : W1.heap[w.heap.size + 1]? = some (.loop (rec .ready none)) := by
    rw [← hW1]; have := World.alloc_heap_new (w.alloc (.deferred (some []))) (.loop (rec .ready none)); rwa [World.size_alloc] at this
  have hK1 : W1.heap[w.heap.size]? = some (.deferred (some [])) := by
    rw [← hW1]; exact (Below.heap_alloc _ _ _ (by simp)).trans (World.alloc_heap_new w _)
  have hk1 : Kept (fun _ => False) w W1 := by rw [← hW1]; exact ((Kept.refl _ w).alloc _).alloc _
  have hI1 : I [] W1 := hI _ _ _ h0 (hk1.mono fun _ _ h => h.elim)
  have no : ∀ k, own k → k ≠ w.heap.size ∧ k ≠ w.heap.size + 1 := fun k h => ⟨by have := ho k h; omega, by have := ho k h; omega⟩
  refine ⟨w.heap.size + 1, [{ target := .collected w.heap.size, args := #[] }], W1, { target := .fn (.func gf) lb, args := #[.func (.yield (w.heap.size + 1)) #[] #[]] }, W1, gf,
    #[.func (.yield (w.heap.size + 1)) #[] #[]] ++ lb, W1, ?_, ?_, fun _ _ => trivial, ?_, fun _ => by omega, ?_⟩
  · rw [← hW1, hrec]; exact run_enterLoop_outer _ _ _ _ _
  · simp only [resolve, hg]
    simp [go_sem]
  · simp [invoke, go_sem, eg]
  · refine (hit (w.heap.size + 1)
      (fun pre W => (I pre W ∧ W1.heap.size ≤ W.heap.size) ∧ W.heap[w.heap.size + 1]? = some (.loop (rec .ready none)) ∧ W.heap[w.heap.size]? = some (.deferred (some [])))
      (fun pre W => ∃ c, Ix c pre W ∧ W.heap[w.heap.size + 1]? = some (.loop (rec .done (some c))) ∧ W.heap[w.heap.size]? = some (.deferred (some [])))
      W1 hk1
      (fun pre A B hs hk => ⟨⟨hI _ _ _ hs.1.1 (hk.mono fun _ _ h => .inl h), Nat.le_trans hs.1.2 hk.size⟩, hk.heap hs.2.1 (fun h => (no _ h).2 rfl), hk.heap hs.2.2 (fun h => (no _ h).1 rfl)⟩)
      (fun pre A B hs hk => by
        obtain ⟨c, hc, hl, hd⟩ := hs
        exact ⟨c, hIx _ _ _ _ hc (hk.mono fun _ _ h => .inl h), hk.heap hl (fun h => (no _ h).2 rfl), hk.heap hd (fun h => (no _ h).1 rfl)⟩)
      (fun pre W h => hC _ _ h.1.1) ?_ ⟨⟨hI1, Nat.le_refl _⟩, hL1, hK1⟩).mono ?_
    · -- one round
      rintro pre x post W hxs ⟨⟨hi, hsz⟩, hl, hk⟩
      have hlt : w.heap.size + 1 < W.heap.size := (Array.getElem?_eq_some_iff.1 hl).1
      have hy := run_yield (P := P) (args := encs x) hl (by rw [hrec]; exact hps x)
      rw [hrec] at hy
      refine ⟨fn, _, assign, body, hy, roundIn_of_wpIn trivial (hassign _ x W _ ⟨_, run_beginRound hl (by rw [hrec]), ?_⟩)⟩
      obtain ⟨W2, hW2⟩ : ∃ W2, W2 = W.putObj (w.heap.size + 1) (.loop { rec .ready none with state := .busy }) := ⟨_, rfl⟩
      rw [← hW2]
      have kp2 : Kept (fun k => k = w.heap.size + 1) W W2 := by rw [hW2]; exact putObj_kept _ _ _
      have hl2 : W2.heap[w.heap.size + 1]? = some (.loop { rec .ready none with state := .busy }) := by rw [hW2]; exact World.putObj_heap_same hlt
      have hk2 : W2.heap[w.heap.size]? = some (.deferred (some [])) := kp2.heap hk (by omega)
      have hs2 : W2.heap.size = W.heap.size := by rw [hW2]; simp [World.putObj]
      refine wpIn_mono (hbody _ pre x post _ hxs (hI _ _ _ hi (kp2.mono fun _ _ h => .inr (.inr h))) (by omega)) ?_
      have fin : ∀ (jump : Option Code) (W3 : World), (∀ k, (k = w.heap.size ∨ k = w.heap.size + 1) → W3.heap[k]? = W2.heap[k]?) →
          (Instr.endRound (w.heap.size + 1) jump).run P W3 = .ok (.bool jump.isNone) (W3.putObj (w.heap.size + 1) (.loop (rec (if jump.isNone then .ready else .done) jump))) ∧
          (W3.putObj (w.heap.size + 1) (.loop (rec (if jump.isNone then .ready else .done) jump))).heap[w.heap.size + 1]? = some (.loop (rec (if jump.isNone then .ready else .done) jump)) ∧
          (W3.putObj (w.heap.size + 1) (.loop (rec (if jump.isNone then .ready else .done) jump))).heap[w.heap.size]? = some (.deferred (some [])) := fun jump W3 hk3 => by
        have hl3 := (hk3 (w.heap.size + 1) (.inr rfl)).trans hl2
        have := run_endRound (P := P) jump hl3
        rw [hrec] at this ⊢
        exact ⟨this, World.putObj_heap_same (Array.getElem?_eq_some_iff.1 hl3).1, (World.putObj_heap_other (by omega)).trans ((hk3 _ (.inl rfl)).trans hk2)⟩
      rintro e a3 W3 hp
      cases e with
      | normal =>
        obtain ⟨⟨hs3, hk3⟩, hi3⟩ := hp
        obtain ⟨hr', hl4, hk4⟩ := fin none W3 (fun k hk => hk3 k (.inr hk))
        refine ⟨_, _, hr', .inl ⟨rfl, ⟨⟨hI _ _ _ hi3 ((putObj_kept _ _ _).mono fun _ _ h => .inr (.inr h)), ?_⟩, hl4, hk4⟩, ?_, fun k hk => ?_⟩⟩
        · simp [World.putObj]; omega
        · simp [World.putObj]; omega
        · have := hr k hk
          rw [World.putObj_heap_other (by omega), hk3 k (.inl hk)]
          exact kp2.block k (by omega) (by omega)
      | ret =>
        obtain ⟨hr', hl4, hk4⟩ := fin (some .ret) W3 hp.1
        exact ⟨_, _, hr', .inr ⟨rfl, .ret, hIx _ _ _ _ hp.2 ((putObj_kept _ _ _).mono fun _ _ h => .inr (.inr h)), hl4, hk4⟩⟩
      | exit id =>
        obtain ⟨hr', hl4, hk4⟩ := fin (some (.exit id)) W3 hp.1
        exact ⟨_, _, hr', .inr ⟨rfl, .exit id, hIx _ _ _ _ hp.2 ((putObj_kept _ _ _).mono fun _ _ h => .inr (.inr h)), hl4, hk4⟩⟩
      | goto t =>
        obtain ⟨hr', hl4, hk4⟩ := fin (some (.goto t)) W3 hp.1
        exact ⟨_, _, hr', .inr ⟨rfl, .goto t, hIx _ _ _ _ hp.2 ((putObj_kept _ _ _).mono fun _ _ h => .inr (.inr h)), hl4, hk4⟩⟩
      | panic ch => exact hp.elim
      | outgrown => exact hp.elim
    · -- behind the iterator
      rintro e W2 ⟨⟨v, rfl⟩, (⟨⟨hi, _⟩, hl, hk⟩ | ⟨pre, hpre, c, hi, hl, hk⟩)⟩
      · exact ⟨none, _, by have := run_endLoop (P := P) hl (by rw [hrec]; simp); rw [hrec] at this; exact this, hdone _ (hI _ _ _ hi ((putObj_kept _ _ _).mono fun _ _ h => .inr (.inr h))) ((World.putObj_heap_other (by omega)).trans hk)⟩
      · exact ⟨some c, _, by have := run_endLoop (P := P) hl (by rw [hrec]; simp); rw [hrec] at this; exact this, wpIn_wide.2 (hstop c pre _ hpre (hIx _ _ _ _ hi ((putObj_kept _ _ _).mono fun _ _ h => .inr (.inr h))) ((World.putObj_heap_other (by omega)).trans hk))⟩

set_option maxRecDepth 100000 in
set_option maxHeartbeats 1000000 in
theorem allB_iter (B Bb n : Nat) (w : World) (hb : Boxed w B 30 (.slice (some ⟨Bb, 0, none⟩) n n)) (hl : n ≤ 1000000) :
    IterC Tryz.prog 92 #[.pointer (some ⟨B, 0, none⟩)] (fun i : Nat => #[.int .i64 (i : Nat), .int .u8 0]) (fun _ => False) (fun _ => False) (fun pre W => pre.length < n → W.cell? ⟨Bb, pre.length, none⟩ = some (.int .u8 0)) (List.range n) w := by
  intro l J Jx W hW hJ hJx hC hY h0
  refine callsIn_of_wp Tryz.func92 rfl trivial ?_ rfl
  have hb' : Boxed W B 30 (.slice (some ⟨Bb, 0, none⟩) n n) := hW.heap hb (by simp)
  have hcp := hb'.cell
  have HC := Lib.hid hC
  have HY := Lib.hid hY
  have H0 := Lib.hid h0
  clear hb hb' hY h0 hC
  simp only [Tryz.ntmps92, List.size_toArray, List.length_cons, List.length_nil, Nat.reduceAdd, Nat.reduceSub, Array.replicate_succ, Array.replicate_zero, List.push_toArray, List.append_toArray, List.nil_append, List.cons_append]
  gi_wp2
  gi_loopw [3, 4, 7] (fun _ _ i wr => ∃ j : Nat, i = .int .i64 j ∧ j ≤ n ∧ Hid (J (List.range j) wr)) (fun _ _ i _ => n - iNat i)
  case atStart => exact ⟨0, rfl, by omega, Lib.hid (by simpa using H0.out)⟩
  case round =>
    obtain ⟨j, rfl, hj, hJ1⟩ := hrel
    by_cases hlt : j < n
    · have hlt' : (j : Int) < (n : Int) := by omega
      have hd : List.range n = List.range j ++ j :: (List.range n).drop (j + 1) := by
        have h1 := List.take_append_drop j (List.range n)
        rw [List.take_range, Nat.min_eq_left (by omega), List.drop_eq_getElem_cons (by simpa using hlt)] at h1
        simpa using h1.symm
      have hc := HC.out _ _ hJ1.out (by simpa using hlt)
      rw [List.length_range] at hc
      obtain ⟨fn, tmps, assign, body, hy, hR⟩ := HY.out (List.range j) j ((List.range n).drop (j + 1)) wr hd hJ1.out
      have HR := Lib.hid hR
      have Hd := Lib.hid hd
      clear hR hd
      gi_wp2
      refine HR.out.mono ?_
      rintro e W3 (⟨rfl, hJ3, _, hk3⟩ | ⟨rfl, hJx3⟩)
      · have HJ3 := Lib.hid hJ3
        clear hJ3 hk3
        gi_wp2
        go_roundw
        case rel =>
          refine ⟨j + 1, congrArg (Value.int .i64) (by omega), by omega, Lib.hid ?_⟩
          rw [List.range_succ]
          exact HJ3.out
        case measure => simp only [iNat]; omega
      · gi_wp2
        refine bodyPost_ret (results_none rfl _ _ _) rfl ?_
        refine ⟨⟨_, rfl⟩, .inr ⟨_, ?_, hJx3⟩⟩
        refine ⟨(List.range n).drop (j + 1), ?_⟩
        rw [List.append_assoc, List.singleton_append]
        exact Hd.out.symm
    · have hlt' : ¬ (j : Int) < (n : Int) := by omega
      obtain rfl : j = n := by omega
      gi_wp2
      refine bodyPost_end (results_none rfl _ _ _) rfl ?_
      exact ⟨⟨_, rfl⟩, .inl hJ1.out⟩
theorem allB_of (A : Option Addr) (n c : Nat) (w : World) : Calls Tryz.prog 85 #[.slice A n c] w fun e w' => e = .returned (.func (.func 92) #[] #[.pointer (some ⟨w.heap.size, 0, none⟩)]) ∧ w' = w.alloc (.cells #[.slice A n c] 30) := by
  go_enter Tryz.func85, Tryz.ntmps85
  go_wp2
  go_ret
  exact ⟨rfl, rfl⟩
end Go.Proofs.YtibalgfejfjndaaGreatDoor
end

/-! frame.number. -/
section
set_option linter.unusedVariables false
set_option linter.unusedSimpArgs false
namespace Go.Proofs.YtibalgfejfjndaaGreatDoor
open Go.RowKit Go.Sort
attribute [local go_sem] Oper.semAt_some

theorem make_bytes (W : World) (N : Nat) (hN : N < 800) : (Instr.makeSlice 30 (.int .i64 (N : Int)) (.int .i64 (N : Int))).run Tryz.prog W = .ok (.slice (some ⟨W.heap.size, 0, none⟩) N N) (W.alloc (.cells (List.replicate N (Value.int .u8 0)).toArray 5)) := by
  obtain ⟨i0, hi, hz0, hz1, hz2⟩ := info_parts infoU8
  have := run_makeSlice (P := Tryz.prog) W 30 5 i0 (.int .u8 0) Tryz.underlying30 hi hz0 .i64 .i64 (N : Int) (N : Int) (by omega) (Int.le_refl _) (by rw [hz1]; simp; omega) (by rw [hz2]; omega) (by omega)
  rw [this]
  have e : madeCells (Value.int .u8 0).cells ((N : Int).toNat * i0.size) = (List.replicate N (Value.int .u8 0)).toArray := by
    apply Array.ext'
    rw [hz1, show (Value.int .u8 0).cells = #[.int .u8 0] from rfl, toList_madeCells_one]
    simp
  rw [e]
  simp
/-- A number in so many bytes, the highest first. -/
def numAt (k v i : Nat) : UInt8 := UInt8.ofNat (v / 2 ^ (8 * (k - 1 - i)) % 256)
def numN (k v : Nat) : List UInt8 := (List.range k).map (numAt k v)
theorem numN_len (k v : Nat) : (numN k v).length = k := by simp [numN]
def rowN (k v i : Nat) : List Value := ((List.range i).map (numAt k v)).map bv ++ List.replicate (k - i) (.int .u8 0)
theorem rowN_len (k v i : Nat) (h : i ≤ k) : (rowN k v i).length = k := by simp [rowN]; omega
theorem rowN_at (k v i : Nat) (h : i < k) : (rowN k v i)[i]? = some (.int .u8 0) := by
  unfold rowN
  rw [List.getElem?_append_right (by simp), show i - (((List.range i).map (numAt k v)).map bv).length = 0 by simp, List.getElem?_replicate, if_pos (by omega)]
theorem rowN_set (k v i : Nat) (h : i < k) : (rowN k v i).set i (bv (numAt k v i)) = rowN k v (i + 1) := by
  unfold rowN
  rw [List.set_append_right _ _ (by simp), show k - i = (k - (i + 1)) + 1 by omega, List.replicate_succ]
  simp only [List.length_map, List.length_range, Nat.sub_self, List.set_cons_zero, List.range_succ, List.map_append, List.map_cons, List.map_nil, List.append_assoc, List.singleton_append]
set_option maxRecDepth 100000 in
set_option maxHeartbeats 4000000 in
theorem number_any (w : World) (v k : Nat) (hv : v < 18446744073709551616) (hk : 1 ≤ k ∧ k ≤ 8) : Calls Tryz.prog 67 #[.int .u64 (v : Nat), .int .i64 (k : Nat)] w (ClonePost w (numN k v)) := by
  have hmk := fun W => make_bytes W k (by omega)
  have hk8 : (k : Int) ≤ 8 := by omega
  refine calls_of_marks Tryz.func67 rfl ?_
  simp only [Tryz.ntmps67, List.size_toArray, List.length_cons, List.length_nil, Nat.reduceAdd, Nat.reduceSub, Array.replicate_succ, Array.replicate_zero, List.push_toArray, List.append_toArray, List.nil_append, List.cons_append]
  go_wp2_with (first
    | (go_at_call 85; refine (allB_of _ _ _ _).mono ?_; rintro e w' ⟨rfl, rfl⟩))
  obtain ⟨O, hO⟩ : ∃ O, O = w.heap.size := ⟨_, rfl⟩
  obtain ⟨W0, hW0⟩ : ∃ W0, W0 = (((((w.alloc (.cells #[.int .u64 (v : Nat)] 27)).alloc (.cells #[.int .i64 (k : Nat)] 3)).alloc (.cells (Array.replicate k (.int .u8 0)) 5)).alloc (.cells #[.slice (some ⟨w.heap.size + 1 + 1, 0, none⟩) k k] 30)).alloc (.cells #[.slice (some ⟨w.heap.size + 1 + 1, 0, none⟩) k k] 30)) := ⟨_, rfl⟩
  rw [← hW0]
  have hkW : Kept (fun _ => False) w W0 := by rw [hW0]; exact (((((Kept.refl _ w).alloc _).alloc _).alloc _).alloc _).alloc _
  have hsz : W0.heap.size = O + 5 := by rw [hW0, hO]; simp
  have hb0 : Boxed W0 O 27 (.int .u64 (v : Nat)) := by
    rw [hW0, hO]; exact ((((Boxed.new w 27 _).alloc _).alloc _).alloc _).alloc _
  have hb1 : Boxed W0 (O + 1) 3 (.int .i64 (k : Nat)) := by
    have := (((Boxed.new (w.alloc (.cells #[.int .u64 (v : Nat)] 27)) 3 (.int .i64 (k : Nat))).alloc (.cells (Array.replicate k (.int .u8 0)) 5)).alloc (.cells #[.slice (some ⟨w.heap.size + 1 + 1, 0, none⟩) k k] 30)).alloc (.cells #[.slice (some ⟨w.heap.size + 1 + 1, 0, none⟩) k k] 30)
    rw [hW0, hO]; simpa using this
  have hb2 : W0.heap[O + 1 + 1]? = some (.cells (rowN k v 0).toArray 5 (0, 0)) := by
    have h1 := heap_alloc_new ((w.alloc (.cells #[.int .u64 (v : Nat)] 27)).alloc (.cells #[.int .i64 (k : Nat)] 3)) (.cells (Array.replicate k (.int .u8 0)) 5)
    have hr : rowN k v 0 = List.replicate k (.int .u8 0) := by simp [rowN]
    rw [hW0, heap_alloc_old _ _ (by simp [hO]), heap_alloc_old _ _ (by simp [hO])]
    rw [hr, hO]
    simpa using h1
  have hb3 : Boxed W0 (O + 1 + 1 + 1) 30 (.slice (some ⟨O + 1 + 1, 0, none⟩) k k) := by
    have := (Boxed.new (((w.alloc (.cells #[.int .u64 (v : Nat)] 27)).alloc (.cells #[.int .i64 (k : Nat)] 3)).alloc (.cells (Array.replicate k (.int .u8 0)) 5)) 30 (.slice (some ⟨w.heap.size + 1 + 1, 0, none⟩) k k)).alloc (.cells #[.slice (some ⟨w.heap.size + 1 + 1, 0, none⟩) k k] 30)
    rw [hW0, hO]; simpa using this
  have hb4 : Boxed W0 (O + 1 + 1 + 1 + 1) 30 (.slice (some ⟨O + 1 + 1, 0, none⟩) k k) := by
    have := Boxed.new ((((w.alloc (.cells #[.int .u64 (v : Nat)] 27)).alloc (.cells #[.int .i64 (k : Nat)] 3)).alloc (.cells (Array.replicate k (.int .u8 0)) 5)).alloc (.cells #[.slice (some ⟨w.heap.size + 1 + 1, 0, none⟩) k k] 30)) 30 (.slice (some ⟨w.heap.size + 1 + 1, 0, none⟩) k k)
    rw [hW0, hO]; simpa using this
  clear hW0
  rw [← hO]
  have HO := Lib.hid hO
  have hOle : w.heap.size ≤ O := by omega
  have HOle := Lib.hid hOle
  clear hO
  have hit := allB_iter (O + 1 + 1 + 1 + 1) (O + 1 + 1) k W0 hb4 (by omega)
  refine wp_rangeC (gf := 92) rfl (enters_of Tryz.func92 (by kernel_rfl) rfl) hit (fun _ => rfl) (fun k h => h.elim) (fun k h => h.elim)
    (fun pre W => Boxed W O 27 (.int .u64 (v : Nat)) ∧ Boxed W (O + 1) 3 (.int .i64 (k : Nat)) ∧ W.heap[O + 1 + 1]? = some (.cells (rowN k v pre.length).toArray 5 (0, 0)) ∧ Boxed W (O + 1 + 1 + 1) 30 (.slice (some ⟨O + 1 + 1, 0, none⟩) k k) ∧ Kept (fun _ => False) w W)
    (fun c pre W => False)
    (fun pre W h hlt => by simp [World.cell?, h.2.2.1, rowN_at k v pre.length hlt])
    (fun pre A C h hk => ⟨hk.heap h.1 (fun e => by rcases e with e | e | e; exact e; omega; omega), hk.heap h.2.1 (fun e => by rcases e with e | e | e; exact e; omega; omega), hk.heap h.2.2.1 (fun e => by rcases e with e | e | e; exact e; omega; omega), hk.heap h.2.2.2.1 (fun e => by rcases e with e | e | e; exact e; omega; omega), h.2.2.2.2.trans hk fun i hi e => by rcases e with e | e | e; exact e; omega; omega⟩)
    (fun c pre A C h hk => h.elim)
    ⟨hb0, hb1, hb2, hb3, hkW⟩
    (fun x => { tmps := #[.int .u64 (v : Nat), .int .i64 (k : Nat), .pointer (some ⟨O, 0, none⟩), .pointer (some ⟨O + 1, 0, none⟩), .slice none 0 0, .pointer (some ⟨O + 1 + 1 + 1, 0, none⟩), .int .i64 (x : Nat), .int .i64 (k : Nat), .slice (some ⟨O + 1 + 1, 0, none⟩) k k, .slice (some ⟨O + 1 + 1, 0, none⟩) k k, .func (.func 92) #[] #[.pointer (some ⟨O + 1 + 1 + 1 + 1, 0, none⟩)], .int .i64 (x : Nat), .int .u8 0, undef, undef, undef, undef, undef, undef, undef, undef, undef, undef, undef, undef], defers := [] }) ?assign ?body ?done ?stop
  case assign =>
    intro l x W K hK
    gi_wp2
    exact hK
  case body =>
    rintro l pre x post W hxs ⟨h0, h1, h2, h3, hk⟩ hsz2
    have hx : x = pre.length ∧ x < k := by
      have h5 : (List.range k)[pre.length]? = some x := by rw [hxs]; simp
      rcases Nat.lt_or_ge pre.length k with h7 | h7
      · rw [List.getElem?_range h7] at h5
        injection h5 with h5
        exact ⟨h5.symm, by omega⟩
      · rw [List.getElem?_eq_none (by simpa using h7)] at h5; cases h5
    obtain ⟨hx1, hx2⟩ := hx
    rw [← hx1] at h2
    have a0 := h0.cell
    have a1 := h1.cell
    have a3 := h3.cell
    have a2 : W.cell? ⟨O + 1 + 1, x, none⟩ = some (.int .u8 0) := by simp [World.cell?, h2, rowN_at k v x hx2]
    have f2 : W.frozen? ⟨O + 1 + 1, x, none⟩ = false := by simp [World.frozen?, h2]
    have hx9 : (x : Int) < (k : Int) := by omega
    obtain ⟨k1, hk1⟩ : ∃ k1, k1 = k - 1 := ⟨_, rfl⟩
    obtain ⟨m, hm⟩ : ∃ m, m = k1 - x := ⟨_, rfl⟩
    obtain ⟨s, hs⟩ : ∃ s, s = 8 * m := ⟨_, rfl⟩
    obtain ⟨z, hz⟩ : ∃ z, z = v / 2 ^ s := ⟨_, rfl⟩
    obtain ⟨u, hu⟩ : ∃ u, u = (numAt k v x).toNat := ⟨_, rfl⟩
    have hw1 : IntKind.i64.wrap ((k : Int) - 1) = (k1 : Int) := by rw [IntKind.wrap_i64]; omega
    have hw2 : IntKind.i64.wrap ((k1 : Int) - (x : Int)) = (m : Int) := by rw [IntKind.wrap_i64]; omega
    have hw3 : IntKind.i64.wrap (8 * (m : Int)) = (s : Int) := by rw [IntKind.wrap_i64]; omega
    have hsh : Op.shift .shr .u64 (v : Int) .i64 (s : Int) = pure (.int .u64 (z : Nat)) := by
      rw [shift_shr_any _ _ _ _ (by omega)]
      have h9 : ((v : Int)) / 2 ^ min ((s : Int)).toNat 64 = ((v / 2 ^ s : Nat) : Int) := by
        rw [Int.toNat_natCast, Nat.min_eq_left (by omega)]
        norm_cast
      rw [show IntKind.u64.bits = 64 from rfl, h9, hz]
    have hzu : IntKind.u8.wrap (z : Int) = (u : Int) := by
      rw [IntKind.wrap_u8, hu, numAt, show k - 1 - x = m by omega, ← hs, ← hz]
      simp
    have Hu := Lib.hid (show bv (numAt k v x) = .int .u8 (u : Nat) by rw [hu]; rfl)
    clear hk1 hm hs hz hu
    have H0 := Lib.hid h0
    have H1 := Lib.hid h1
    have H2 := Lib.hid h2
    have H3 := Lib.hid h3
    have HK := Lib.hid hk
    have HX := Lib.hid hx1
    have HS2 := Lib.hid hsz2
    clear h0 h1 h2 h3 hk hxs hit hsz2 hx1 hb0 hb1 hb2 hb3 hb4 hkW hmk hOle
    gi_wp2
    refine wpIn_still_drew 11 (by kernel_rfl) (by kernel_rfl) (by kernel_rfl) (fun ⟨_, _, h⟩ => h) ?_
    simp only [List.take_succ_cons, List.take_zero, List.drop_succ_cons, List.drop_zero]
    repeat still_step
    refine wpStill_nil ?_
    go_wp2
    have hk9 : Kept (fun q => q = O + 1 + 1) W (W.setCell ⟨O + 1 + 1, x, none⟩ (.int .u8 (u : Nat))).drew := ((Kept.refl (fun q => q = O + 1 + 1) W).setCell (fun _ => rfl) _).drew
    have h2 := HS2.out
    have hle := HOle.out
    refine ⟨⟨hk9.size, fun q hq => hk9.block q (by rcases hq with hq | hq | hq; exact hq.elim; omega; omega) (by rcases hq with hq | hq | hq; exact hq.elim; omega; omega)⟩, hk9.heap H0.out (by omega), hk9.heap H1.out (by omega), ?_, hk9.heap H3.out (by omega), HK.out.trans hk9 fun i hi e => by omega⟩
    have hh : (W.setCell ⟨O + 1 + 1, x, none⟩ (.int .u8 (u : Nat))).heap[O + 1 + 1]? = some (.cells ((rowN k v x).toArray.setIfInBounds x (.int .u8 (u : Nat))) 5 (0, 0)) := by
      simp only [World.setCell, Array.getElem?_modify, if_true, H2.out]; rfl
    show (W.setCell ⟨O + 1 + 1, x, none⟩ (.int .u8 (u : Nat))).heap[O + 1 + 1]? = _
    rw [hh, List.setIfInBounds_toArray, ← Hu.out, rowN_set k v x hx2, List.length_append, List.length_singleton, ← HX.out]
  case done =>
    rintro W ⟨h0, h1, h2, h3, hk'⟩ hD
    have a3 := h3.cell
    have H2 := Lib.hid h2
    have HK := Lib.hid hk'
    have HD := Lib.hid hD
    clear h0 h1 h2 h3 hk' hD hit hb0 hb1 hb2 hb3 hb4 hkW
    go_wp2
    refine leave_mark HD.out (v := .slice (some ⟨O + 1 + 1, 0, none⟩) k k) (show _ = Result.ok _ _ from results_tmp (t := 4) rfl _ _ _) ⟨_, rfl, ?_, ?_⟩
    · have h9 : (W.putObj W0.heap.size (.deferred none)).heap[O + 1 + 1]? = some (.cells (rowN k v k).toArray 5 (0, 0)) := by
        have := (putObj_kept W W0.heap.size (.deferred none)).heap H2.out (by omega)
        rwa [List.length_range] at this
      have hle := HOle.out
      rw [numN_len]
      refine ⟨by simp [numN], .inr ⟨O + 1 + 1, k, (rowN k v k).toArray, rfl, by omega, h9, Nat.le_refl _, by unfold maxLen; omega, ?_, ?_⟩⟩
      · simp [rowN_len]
      · simp [rowN, numN]
        exact List.take_of_length_le (by simp)
    · have hle := HOle.out
      exact HK.out.trans (putObj_kept W W0.heap.size (.deferred none)) fun i hi e => by omega
  case stop =>
    intro c pre W _ h
    exact h.elim
end Go.Proofs.YtibalgfejfjndaaGreatDoor
end

/-! slices.Grow of nil bytes; slices.Concat of bytes. -/
section
set_option linter.unusedVariables false
set_option linter.unusedSimpArgs false
namespace Go.Proofs.YtibalgfejfjndaaGreatDoor
open Go.RowKit

set_option maxRecDepth 100000 in
set_option maxHeartbeats 4000000 in
theorem grow_any (w : World) (n : Nat) (hn : n ≤ 1000000) : Calls Tryz.prog 84 #[.slice none 0 0, .int .i64 (n : Nat)] w fun e w' => ∃ v, e = .returned v ∧ Acc w w' v [] := by
  have hn9 : (n : Int) ≤ 1000000 := by omega
  rcases Nat.eq_zero_or_pos n with h0 | h0
  · subst h0
    go_enter Tryz.func84, Tryz.ntmps84
    go_wp2
    go_ret
    exact ⟨_, rfl, Acc.nil w⟩
  · obtain ⟨i0, hi, hz0, hz1, hz2⟩ := info_parts infoU8
    have hap := fun ty => Lib.run_append_nil_zeros (P := Tryz.prog) w 30 3 ty 5 i0 (.int .u8 0) .i64 .i64 Tryz.underlying30 Tryz.underlying3 hi hz0 n h0 (by rw [hz1]; omega) (by omega) (by rw [hz2]; omega)
    have hge := grownCap_ge w n 0 5
    have hmx := grownCap_le_maxLen w n 0 5 (by unfold maxLen; omega)
    have hsz : (Builtin.zeroCells (Value.int .u8 0).cells n ++ Builtin.zeroCells (Value.int .u8 0).cells (grownCap w n 0 5 - n)).size = grownCap w n 0 5 := by
      rw [Array.size_append, size_zeroCells, size_zeroCells, show (Value.int IntKind.u8 0).cells.size = 1 from rfl]; omega
    obtain ⟨cap, hcap⟩ : ∃ cap, cap = grownCap w n 0 5 := ⟨_, rfl⟩
    rw [← hcap] at hge hmx hsz hap
    obtain ⟨arr, harr⟩ : ∃ arr, arr = Builtin.zeroCells (Value.int .u8 0).cells n ++ Builtin.zeroCells (Value.int .u8 0).cells (cap - n) := ⟨_, rfl⟩
    rw [← harr] at hsz hap
    have hpos : (0 : Int) < (n : Int) := by omega
    have hc9 : (cap : Int) ≤ 9223372036854775807 := by unfold maxLen at hmx; omega
    have HA : Hid (Acc w (w.drew.alloc (.cells arr 5)) (.slice (some ⟨w.heap.size, 0, none⟩) 0 cap) []) := Lib.hid ⟨⟨by simp, .inr ⟨w.heap.size, cap, arr, rfl, Nat.le_refl _, heap_alloc_new w.drew _, by simp, hmx, by omega, by simp⟩⟩, (Kept.refl _ w).drew.alloc _⟩
    have Hap := Lib.hid hap
    clear hap hmx hge hcap harr hsz
    go_enter Tryz.func84, Tryz.ntmps84
    go_wp2_with (at_builtin; refine Lib.wpList_append_run _ rfl _ _ 30 3 rfl _ _ rfl rfl _ _ (Hap.out _) ?_)
    go_ret
    exact ⟨_, rfl, HA.out⟩
/-- Slices of bytes. -/
structure BV where
  A : Option Addr
  c : Nat
  b : List UInt8
def BBs (w : World) (A : Option Addr) (ps : List BV) : Prop := ∀ (j : Nat) p, ps[j]? = some p → ∃ ad, A = some ad ∧ w.cell? (ad.add j) = some (.slice p.A p.b.length p.c) ∧ Bs w p.A p.b ∧ (p.A = none → p.c = 0)
theorem BBs.kept {w w' : World} {A : Option Addr} {ps : List BV} (h : BBs w A ps) (hk : Kept (fun _ => False) w w') : BBs w' A ps := fun j p hp => by
  obtain ⟨ad, h1, h2, h3, h4⟩ := h j p hp
  exact ⟨ad, h1, hk.cell h2 (by simp), h3.kept hk (by simp), h4⟩
def sumB (ps : List BV) : Nat := (ps.map fun p => p.b.length).sum
theorem sumB_snoc (ps : List BV) (k : Nat) (p : BV) (h : ps[k]? = some p) : sumB (ps.take (k + 1)) = sumB (ps.take k) + p.b.length := by
  unfold sumB; rw [List.take_add_one, h]; simp
theorem sumB_le (ps : List BV) (k : Nat) : sumB (ps.take k) ≤ sumB ps := by
  have : sumB ps = sumB (ps.take k) + sumB (ps.drop k) := by
    unfold sumB
    rw [← List.sum_append, ← List.map_append, List.take_append_drop]
  omega
theorem sumB_len (ps : List BV) : (ps.flatMap BV.b).length = sumB ps := by
  unfold sumB
  induction ps with
  | nil => rfl
  | cons p ps ih => simp [List.flatMap_cons, ih]
theorem flatB_snoc (ps : List BV) (k : Nat) (p : BV) (h : ps[k]? = some p) : (ps.take (k + 1)).flatMap BV.b = (ps.take k).flatMap BV.b ++ p.b := by
  rw [List.take_add_one, h, List.flatMap_append]; simp
set_option maxRecDepth 100000 in
set_option maxHeartbeats 4000000 in
theorem concat_any (w : World) (A : Option Addr) (n c : Nat) (ps : List BV) (hn : n = ps.length) (hn9 : n ≤ 1000) (hl : sumB ps ≤ 1000000) (h : BBs w A ps) :
    Calls Tryz.prog 66 #[.slice A n c] w (ClonePost w (ps.flatMap BV.b)) := by
  have H := Lib.hid h
  have Hn := Lib.hid hn
  have Hl := Lib.hid hl
  have hn8 : (n : Int) ≤ 1000 := by omega
  obtain ⟨S, hS⟩ : ∃ S, S = sumB ps := ⟨_, rfl⟩
  have HG := Lib.hid (grow_any w S (by omega))
  have HS := Lib.hid hS
  have hS9 : (S : Int) ≤ 1000000 := by omega
  clear h hn hl hS
  go_enter Tryz.func66, Tryz.ntmps66
  go_wp2_with fail
  go_loop [3, 5, 11] (fun m _ i => ∃ k u : Nat, k ≤ n ∧ i = .int .i64 k ∧ m = .int .i64 u ∧ Hid (u = sumB (ps.take k))) (fun _ _ i => n - (intOf i).toNat)
  case atStart => exact ⟨0, 0, by omega, rfl, rfl, Lib.hid (by simp [sumB])⟩
  case round =>
    obtain ⟨k, u, hk, rfl, rfl, hu⟩ := hrel
    by_cases hlt : k < n
    · have hk9 : (k : Int) < (n : Int) := by omega
      obtain ⟨p, hp⟩ : ∃ p, ps[k]? = some p := ⟨_, List.getElem?_eq_getElem (by have := Hn.out; omega)⟩
      obtain ⟨ad, rfl, hc, -, -⟩ := H.out k p hp
      have hs := sumB_snoc ps k p hp
      have hu9 : (u : Int) + (p.b.length : Int) ≤ 1000000 := by
        have h1 := hu.out
        have h2 := sumB_le ps (k + 1)
        have h3 := Hl.out
        omega
      have Hs := Lib.hid hs
      have hneg : ¬ (u : Int) + (p.b.length : Int) < 0 := by omega
      clear hp hs
      go_wp2
      go_round
      case rel => exact ⟨k + 1, u + p.b.length, by omega, by go_num, by go_num, Lib.hid (by rw [Hs.out, hu.out])⟩
      case measure => simp [intOf]; omega
    · obtain rfl : k = n := by omega
      have hE : u = S := by rw [hu.out, HS.out, Hn.out, List.take_length]
      subst hE
      go_wp2_with (go_at_call 84; refine HG.out.mono ?_; rintro e w1 ⟨v1, rfl, ha⟩; have HA1 := Lib.hid ha; clear ha)
      go_loopw [6, 8, 27] (fun l _ i wr => ∃ j : Nat, j ≤ k ∧ i = .int .i64 j ∧ Hid (Acc w wr l ((ps.take j).flatMap BV.b))) (fun _ _ i _ => k - (intOf i).toNat)
      case atStart => exact ⟨0, by omega, rfl, HA1⟩
      case round =>
        obtain ⟨j, hj, rfl, ho⟩ := hrel
        by_cases hlt2 : j < k
        · have hj9 : (j : Int) < (k : Int) := by omega
          obtain ⟨p, hp⟩ : ∃ p, ps[j]? = some p := ⟨_, List.getElem?_eq_getElem (by have := Hn.out; omega)⟩
          obtain ⟨ad, rfl, hc, hbs, hA⟩ := H.out j p hp
          have hc := ho.out.2.cell hc (by simp)
          have Hf := Lib.hid (flatB_snoc ps j p hp)
          have Hbs := Lib.hid (hbs.kept ho.out.2 (by simp))
          have HA := Lib.hid hA
          have Hb : Hid (((ps.take j).flatMap BV.b).length + p.b.length ≤ 1000000) := Lib.hid (by
            rw [sumB_len]
            have h1 := sumB_snoc ps j p hp
            have h2 := sumB_le ps (j + 1)
            have h3 := Hl.out
            omega)
          clear hp hbs hA
          go_wp2_with (at_builtin; refine wpList_append_acc rfl _ _ rfl _ _ rfl ho.out _ _ _ p.b rfl Hbs.out rfl HA.out (by have := Hb.out; omega) ?_; intro v2 w2 ha hg; have HA2 := Lib.hid ha; clear ha hg)
          go_roundw
          case rel => exact ⟨j + 1, by omega, by go_num, Lib.hid (by rw [Hf.out]; exact HA2.out)⟩
          case measure => simp [intOf]; omega
        · obtain rfl : j = k := by omega
          have HA2 := Lib.hid ho.out
          rw [Hn.out, List.take_length] at HA2
          go_wp2
          go_ret
          exact ⟨_, rfl, HA2.out.1, HA2.out.2⟩
end Go.Proofs.YtibalgfejfjndaaGreatDoor
end

/-! frame.Make. -/
section
set_option linter.unusedVariables false
set_option linter.unusedSimpArgs false
namespace Go.Proofs.YtibalgfejfjndaaGreatDoor
open Go.RowKit

def restB (off : Nat) (d : List UInt8) : List UInt8 := numN 8 off ++ d
def frameB (off : Nat) (d : List UInt8) : List UInt8 := numN 4 d.length ++ (numN 4 (crcN (restB off d)) ++ restB off d)
theorem restB_len (off : Nat) (d : List UInt8) : (restB off d).length = d.length + 8 := by simp [restB, numN_len]; omega
theorem frameB_len (off : Nat) (d : List UInt8) : (frameB off d).length = d.length + 16 := by simp [frameB, numN_len, restB_len]; omega
theorem bbs_new (W : World) (ps : List BV) (h : ∀ p ∈ ps, Bs W p.A p.b ∧ (p.A = none → p.c = 0)) : BBs (W.alloc (.cells (ps.map fun p => Value.slice p.A p.b.length p.c).toArray 30)) (some ⟨W.heap.size, 0, none⟩) ps := by
  intro j p hp
  have h1 := heap_alloc_new W (.cells (ps.map fun p => Value.slice p.A p.b.length p.c).toArray 30)
  have hk : Kept (fun _ => False) W (W.alloc (.cells (ps.map fun p => Value.slice p.A p.b.length p.c).toArray 30)) := (Kept.refl _ W).alloc _
  have h8 : (⟨W.heap.size, 0, none⟩ : Addr).add j = ⟨W.heap.size, j, none⟩ := by unfold Addr.add; split <;> simp_all
  have hq := h p (List.mem_of_getElem? hp)
  refine ⟨_, rfl, ?_, hq.1.kept hk (by simp), hq.2⟩
  rw [h8]
  unfold World.cell?
  dsimp only
  rw [h1]
  simp [hp]
set_option maxRecDepth 100000 in
set_option maxHeartbeats 4000000 in
theorem make_any (w : World) (off : Nat) (A : Option Addr) (n c : Nat) (xs : List UInt8) (ho : off < 18446744073709551616) (hn : n = xs.length) (hl : n ≤ 32768) (h : Bs w A xs) (hA : A = none → c = 0) :
    Calls Tryz.prog 43 #[.int .u64 (off : Nat), .slice A n c] w fun e w' => ∃ v, e = .returned (.tuple #[v, .int .i64 0]) ∧ w'.ownsRow w.heap.size 5 1 v (frameB off xs).length ((frameB off xs).map bv) ∧ Kept (fun _ => False) w w' := by
  subst hn
  have H := Lib.hid h
  have HA := Lib.hid hA
  obtain ⟨n, hn⟩ : ∃ n, n = xs.length := ⟨_, rfl⟩
  rw [← hn] at hl ⊢
  have Hn := Lib.hid hn
  have hn9 : ¬ (32768 : Int) < (n : Int) := by omega
  have hn8 : (n : Int) ≤ 32768 := by omega
  have HN8 := Lib.hid (number_any w off 8 ho (by omega))
  have HN4 : Hid (∀ W, Calls Tryz.prog 67 #[.int .u64 (n : Nat), .int .i64 4] W (ClonePost W (numN 4 n))) := Lib.hid fun W => number_any W n 4 (by omega) (by omega)
  obtain ⟨cr, hcr⟩ : ∃ cr, cr = crcN (restB off xs) := ⟨_, rfl⟩
  have hcr9 : cr < 4294967296 := by rw [hcr]; exact crcN_lt _
  have HC4 : Hid (∀ W, Calls Tryz.prog 67 #[.int .u64 (cr : Nat), .int .i64 4] W (ClonePost W (numN 4 cr))) := Lib.hid fun W => number_any W cr 4 (by omega) (by omega)
  have Hcr := Lib.hid hcr
  obtain ⟨m, hm⟩ : ∃ m, m = (restB off xs).length := ⟨_, rfl⟩
  have Hm := Lib.hid hm
  have hm9 : m ≤ 40000 := by rw [hm, restB_len]; omega
  clear h hn hA hcr hm
  go_enter Tryz.func43, Tryz.ntmps43
  have HBB : Hid (∀ (W1 : World) (A1 : Option Addr) (c1 : Nat), Kept (fun _ => False) w W1 → Bs W1 A1 (numN 8 off) → (A1 = none → c1 = 0) → BBs (W1.alloc (.cells #[.slice A1 (numN 8 off).length c1, .slice A n c] 30)) (some ⟨W1.heap.size, 0, none⟩) [⟨A1, c1, numN 8 off⟩, ⟨A, c, xs⟩]) := Lib.hid (by
    intro W1 A1 c1 hk hb hc
    rw [Hn.out]
    exact bbs_new W1 [⟨A1, c1, numN 8 off⟩, ⟨A, c, xs⟩] (fun p hp => by
      simp only [List.mem_cons, List.not_mem_nil, or_false] at hp
      rcases hp with rfl | rfl
      · exact ⟨hb, hc⟩
      · exact ⟨H.out.kept hk (by simp), HA.out⟩))
  have HCon : Hid (∀ (W1 : World) (A1 : Option Addr) (c1 : Nat), Kept (fun _ => False) w W1 → Bs W1 A1 (numN 8 off) → (A1 = none → c1 = 0) → Calls Tryz.prog 66 #[.slice (some ⟨W1.heap.size, 0, none⟩) 2 2] (W1.alloc (.cells #[.slice A1 (numN 8 off).length c1, .slice A n c] 30)) (ClonePost (W1.alloc (.cells #[.slice A1 (numN 8 off).length c1, .slice A n c] 30)) (restB off xs))) := Lib.hid (by
    intro W1 A1 c1 hk hb hc
    have := concat_any _ _ 2 2 _ rfl (by omega) (by simp [sumB, numN_len]; have := Hn.out; omega) (HBB.out W1 A1 c1 hk hb hc)
    simpa [restB] using this)
  go_upto_region 4 with (first
    | (go_at_call 67; refine HN8.out.mono ?_; rintro e w1 hP; obtain ⟨A1, c1, rfl, ha, hb, hc⟩ := ClonePost.acc hP; have HK1 := Lib.hid ha.2; have HB1 := Lib.hid hb; have HC1 := Lib.hid hc; clear hP ha hb hc)
    | (go_at_call 66; refine (HCon.out w1 A1 c1 HK1.out HB1.out HC1.out).mono ?_; rintro e w2 hP; obtain ⟨A2, c2, rfl, ha, hb, hc⟩ := ClonePost.acc hP; rw [← Hm.out]; have HK2 := Lib.hid ((HK1.out.alloc _).trans' ha.2); have HB2 := Lib.hid hb; have HC2 := Lib.hid hc; clear hP ha hb hc))
  have HS : Hid (∀ W, Kept (fun _ => False) w2 W → Calls Tryz.prog 68 #[.slice A2 m c2] W fun e w' => e = .returned (.int .u32 (cr : Nat)) ∧ Kept (fun _ => False) W w') := Lib.hid fun W hk => by
    rw [Hcr.out]
    exact crcSum_any W A2 m c2 (restB off xs) Hm.out (by omega) (HB2.out.kept hk (by simp))
  have HCon2 : Hid (∀ (W1 : World) (A3 : Option Addr) (c3 : Nat) (A4 : Option Addr) (c4 : Nat), Kept (fun _ => False) w2 W1 → Bs W1 A3 (numN 4 n) → (A3 = none → c3 = 0) → Bs W1 A4 (numN 4 cr) → (A4 = none → c4 = 0) → Calls Tryz.prog 66 #[.slice (some ⟨W1.heap.size, 0, none⟩) 3 3] (W1.alloc (.cells #[.slice A3 (numN 4 n).length c3, .slice A4 (numN 4 cr).length c4, .slice A2 m c2] 30)) (ClonePost (W1.alloc (.cells #[.slice A3 (numN 4 n).length c3, .slice A4 (numN 4 cr).length c4, .slice A2 m c2] 30)) (frameB off xs))) := Lib.hid (by
    intro W1 A3 c3 A4 c4 hk hb3 hc3 hb4 hc4
    rw [Hm.out]
    have hbb := bbs_new W1 [⟨A3, c3, numN 4 n⟩, ⟨A4, c4, numN 4 cr⟩, ⟨A2, c2, restB off xs⟩] (fun p hp => by
      simp only [List.mem_cons, List.not_mem_nil, or_false] at hp
      rcases hp with rfl | rfl | rfl
      · exact ⟨hb3, hc3⟩
      · exact ⟨hb4, hc4⟩
      · exact ⟨HB2.out.kept hk (by simp), HC2.out⟩)
    have := concat_any _ _ 3 3 _ rfl (by omega) (by simp [sumB, numN_len, restB_len]; have := Hn.out; omega) hbb
    have e : [(⟨A3, c3, numN 4 n⟩ : BV), ⟨A4, c4, numN 4 cr⟩, ⟨A2, c2, restB off xs⟩].flatMap BV.b = frameB off xs := by
      simp [frameB, ← Hn.out, Hcr.out]
    rw [e] at this
    exact this)
  clear HCon HBB HN8
  go_wp2_with (first
    | (go_at_call 66; refine (HCon2.out w5 A3 c3 A4 c4 HK5.out HB3.out HC3.out HB4.out HC4'.out).mono ?_; rintro e w6 hP; obtain ⟨v6, rfl, ho6, hk6⟩ := hP; have HO6 := Lib.hid ho6; have HK6 := Lib.hid ((HK5.out.alloc _).trans' hk6); clear ho6 hk6)
    | (go_at_call 67; have hkk := HK4.out; (with_reducible refine (HC4.out _).mono ?_); rintro e w5 hP; obtain ⟨A4, c4, rfl, ha, hb, hc⟩ := ClonePost.acc hP; have HK5 := Lib.hid (HK4.out.trans' ha.2); have HB4 := Lib.hid hb; have HC4' := Lib.hid hc; have HB3 := Lib.hid (HB3'.out.kept (HK34.out.trans' ha.2) (by simp)); clear hP ha hb hc hkk)
    | (go_at_call 68; refine (HS.out w3 HK3.out).mono ?_; rintro e w4 ⟨rfl, hk4⟩; have HK34 := Lib.hid hk4; have HK4 := Lib.hid (HK3.out.trans' hk4); clear hk4)
    | (go_at_call 67; (with_reducible refine (HN4.out _).mono ?_); rintro e w3 hP; obtain ⟨A3, c3, rfl, ha, hb, hc⟩ := ClonePost.acc hP; have HK3 := Lib.hid ha.2; have HB3' := Lib.hid hb; have HC3 := Lib.hid hc; clear hP ha hb hc))
  go_ret2
  exact ⟨v6, rfl, own_low HO6.out (Nat.le_trans HK2.out.size (HK5.out.alloc _).size), HK2.out.trans' HK6.out⟩
end Go.Proofs.YtibalgfejfjndaaGreatDoor
end
