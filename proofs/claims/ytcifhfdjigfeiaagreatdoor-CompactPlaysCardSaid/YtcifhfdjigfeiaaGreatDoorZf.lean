import Derived.Test.YtcifhfdjigfeiaaGreatDoorZe
import Derived.Test.YtcifhfdjigfeiaaGreatDoorVg
/-! slices.Values over pairs, in order. -/
section
set_option linter.unusedVariables false
set_option linter.unusedSimpArgs false
namespace Go.Proofs.YtcifhfdjigfeiaaGreatDoor
open Go.RowKit Go.Sort

/-- Pairs whose cells can be read. -/
def PsC (w : World) (A : Option Addr) (ps : List PV) : Prop := ∀ (j : Nat) p, ps[j]? = some p → ∃ ad, A = some ad ∧ PC w (ad.add (j * 3)) p
theorem PsAt.c {w : World} {A : Option Addr} {ps : List PV} (h : PsAt w A ps) : PsC w A ps := fun j p hp => by
  obtain ⟨ad, h1, h2, _⟩ := h j p hp
  exact ⟨ad, h1, h2⟩
theorem PsC.same {w w' : World} {A : Option Addr} {ps : List PV} (h : PsC w A ps) (hk : ∀ k, rdOf A k → w'.heap[k]? = w.heap[k]?) : PsC w' A ps := by
  intro j p hp
  obtain ⟨ad, rfl, hc⟩ := h j p hp
  have hb : w'.heap[(ad.add (j * 3)).block]? = w.heap[(ad.add (j * 3)).block]? := by rw [add_block]; exact hk _ ⟨ad, rfl, rfl⟩
  exact ⟨ad, rfl, ⟨(World.cell?_of_block hb).trans hc.c0, (World.cell?_of_block (a := ⟨(ad.add (j * 3)).block, (ad.add (j * 3)).off + 1, none⟩) hb).trans hc.c1, (World.cell?_of_block (a := ⟨(ad.add (j * 3)).block, (ad.add (j * 3)).off + 2, none⟩) hb).trans hc.c2⟩⟩
def encP (p : PV) : Array Value := #[.agg #[.string p.key, .slice p.A p.b.length p.c, .bool p.gone]]
set_option maxRecDepth 100000 in
set_option maxHeartbeats 2000000 in
theorem valuesP_iter (B n c : Nat) (A : Option Addr) (ns : List PV) (w : World) (hb : Boxed w B 30 (.slice A n c)) (hn : n = ns.length) (hl : n ≤ 1000000) (hs : PsC w A ns) (hA : ∀ ad, A = some ad → ns = [] ∨ ad.block < w.heap.size) :
    Iter Tryz.prog 77 #[.pointer (some ⟨B, 0, none⟩)] encP (fun _ => False) (fun k => ns ≠ [] ∧ rdOf A k) ns w := by
  intro l J Jx W hW hJ hJx hY h0
  refine callsIn_of_wp Tryz.func77 rfl trivial ?_ rfl
  have hb' : Boxed W B 30 (.slice A n c) := hW.heap hb (by simp)
  have hcp := hb'.cell
  have HS : Hid (PsC W A ns) := Lib.hid (by
    by_cases he : ns = []
    · subst he; intro j p hp; simp at hp
    · exact hs.same fun k ⟨ad, e, e2⟩ => hW.block k (by rw [← e2]; exact (hA ad e).resolve_left he) (by simp))
  have Hn := Lib.hid hn
  have HY := Lib.hid hY
  have H0 := Lib.hid h0
  have HJ := Lib.hid hJ
  clear hb hb' hY hs hA hn h0
  simp only [Tryz.ntmps77, List.size_toArray, List.length_cons, List.length_nil, Nat.reduceAdd, Nat.reduceSub, Array.replicate_succ, Array.replicate_zero, List.push_toArray, List.append_toArray, List.nil_append, List.cons_append]
  gi_wp2
  gi_loopw [4, 7] (fun _ i wr => ∃ j : Nat, i = .int .i64 j ∧ j ≤ n ∧ Hid (J (ns.take j) wr) ∧ Hid (PsC wr A ns)) (fun _ i _ => n - iNat i)
  case atStart => exact ⟨0, rfl, by omega, Lib.hid (by simpa using H0.out), HS⟩
  case round =>
    obtain ⟨j, rfl, hj, hJ1, hS1⟩ := hrel
    by_cases hlt : j < n
    · have hlt' : (j : Int) < (n : Int) := by omega
      have hjn : j < ns.length := by have := Hn.out; omega
      obtain ⟨x, hx⟩ : ∃ x, ns[j]? = some x := ⟨_, List.getElem?_eq_getElem hjn⟩
      have hd : ns.drop j = x :: ns.drop (j + 1) := by
        rw [List.drop_eq_getElem_cons hjn, (List.getElem?_eq_some_iff.1 hx).2]
      obtain ⟨ad, rfl, hc⟩ := hS1.out j x hx
      have x0 := hc.c0
      have x1 := hc.c1
      have x2 := hc.c2
      have hka : Kept (fun _ => False) wr (wr.alloc (.cells #[.string x.key, .slice x.A x.b.length x.c, .bool x.gone] 53)) := (Kept.refl _ wr).alloc _
      have HS2 := Lib.hid (hS1.out.same (w' := wr.alloc (.cells #[.string x.key, .slice x.A x.b.length x.c, .bool x.gone] 53)) fun k ⟨ad', e, e2⟩ => hka.block k (by injection e with e; subst e; rw [← e2, ← add_block ad (j * 3)]; exact World.block_lt_of_cell? wr _ x0) (by simp))
      obtain ⟨fn, tmps, assign, body, hy, hR⟩ := HY.out (ns.take j) x (ns.drop (j + 1)) (wr.alloc (.cells #[.string x.key, .slice x.A x.b.length x.c, .bool x.gone] 53)) (by rw [← hd, List.take_append_drop]) (hJ _ _ _ hJ1.out hka)
      unfold encP at hy
      have HR := Lib.hid hR
      have Hx := Lib.hid hx
      have Hd := Lib.hid hd
      unfold PV.val at x1
      clear hR hjn hx hd hc hka
      gi_wp2
      refine HR.out.mono ?_
      rintro e W3 (⟨rfl, hJ3, _, hk3⟩ | ⟨rfl, hJx3⟩)
      · have HJ3 := Lib.hid hJ3
        have HS3 := Lib.hid (HS2.out.same fun k hk => hk3 k ⟨by intro e; have := Hn.out; rw [e] at this; simp at this; omega, hk⟩)
        clear hJ3 hk3
        gi_wp2
        go_roundw
        case rel =>
          refine ⟨j + 1, congrArg (Value.int .i64) (by omega), by omega, Lib.hid ?_, HS3⟩
          rw [List.take_add_one, Hx.out]
          exact HJ3.out
        case measure => simp only [iNat]; omega
      · gi_wp2
        refine bodyPost_ret (results_none rfl _ _ _) rfl ?_
        refine ⟨⟨_, rfl⟩, .inr ⟨_, ?_, hJx3⟩⟩
        refine ⟨ns.drop (j + 1), ?_⟩
        rw [List.append_assoc, List.singleton_append, ← Hd.out, List.take_append_drop]
    · have hlt' : ¬ (j : Int) < (n : Int) := by omega
      gi_wp2
      refine bodyPost_end (results_none rfl _ _ _) rfl ?_
      have : ns.take j = ns := List.take_of_length_le (by have := Hn.out; omega)
      exact ⟨⟨_, rfl⟩, .inl (by have h := hJ1.out; rw [this] at h; exact h)⟩
theorem valuesP_of (A : Option Addr) (n c : Nat) (w : World) : Calls Tryz.prog 54 #[.slice A n c] w fun e w' => e = .returned (.func (.func 77) #[] #[.pointer (some ⟨w.heap.size, 0, none⟩)]) ∧ w' = w.alloc (.cells #[.slice A n c] 30) := by
  go_enter Tryz.func54, Tryz.ntmps54
  go_wp2
  go_ret
  exact ⟨rfl, rfl⟩
end Go.Proofs.YtcifhfdjigfeiaaGreatDoor
end

/-! keyed.Put: its state; a range over a function, where a round knows the loop's own blocks. -/
section
set_option linter.unusedVariables false
set_option linter.unusedSimpArgs false
namespace Go.Proofs.YtcifhfdjigfeiaaGreatDoor
open Go.RowKit Go.Sort

/-- The law. D: the block of the rounds' deferred calls; D + 1: the loop's record. -/
theorem wp_range2 {α : Type} {P : Program} {g : Operand} {ps : Array Tmp} {assign body : Code} {Q : Exit → Act → World → Prop} {a : Act} {w : World}
    {gf : Nat} {lb : Array Value} (hg : a.eval g = .func (.func gf) #[] lb) (eg : ∀ args w, (callFunc gf args).run P w = .ok (.enter gf args) w)
    {encs : α → Array Value} {own rd : Nat → Prop} {xs : List α} (hit : Iter P gf lb encs own rd xs w) (hps : ∀ x, (encs x).size = ps.size)
    (ho : ∀ k, own k → k < w.heap.size) (hr : ∀ k, rd k → k < w.heap.size)
    (I : List α → World → Prop) (Ix : Code → List α → World → Prop)
    (hI : ∀ pre A B, I pre A → Kept (fun k => own k ∨ k = w.heap.size ∨ k = w.heap.size + 1) A B → I pre B)
    (hIx : ∀ c pre A B, Ix c pre A → Kept (fun k => own k ∨ k = w.heap.size ∨ k = w.heap.size + 1) A B → Ix c pre B)
    (h0 : I [] w) (a₁ : α → World → Act) (wA : α → World → World) (hwA : ∀ x W, Kept (fun _ => False) W (wA x W))
    (hassign : ∀ (l : Nat) (x : α) (W : World) (K : Act → World → Prop), K (a₁ x W) (wA x W) →
      assign.wpIn (Fence.wide.inRound l) 7 P (Exit.then K (fun _ _ _ => False)) { tmps := (ps.zip (encs x)).foldl (fun t (p, v) => t.setIfInBounds p v) a.tmps, defers := [] } W)
    (hbody : ∀ (l : Nat) (pre : List α) (x : α) (post : List α) (W0 W : World), xs = pre ++ x :: post → I pre W0 → w.heap.size + 2 ≤ W0.heap.size → Kept (fun k => k = w.heap.size + 1) (wA x W0) W → W.heap[w.heap.size]? = some (.deferred (some [])) → (∃ r, W.heap[w.heap.size + 1]? = some (.loop r)) →
      body.wpIn (Fence.wide.inRound l) 7 P (roundPost w.heap.size rd I Ix (pre ++ [x]) W) (a₁ x W0) W)
    (hdone : ∀ (W : World), I xs W → W.heap[w.heap.size]? = some (.deferred (some [])) → Q .normal { a with defers := { target := .collected w.heap.size, args := #[] } :: a.defers } W)
    (hstop : ∀ (c : Code) (pre : List α) (W : World), pre <+: xs → Ix c pre W → W.heap[w.heap.size]? = some (.deferred (some [])) → c.wp P Q { a with defers := { target := .collected w.heap.size, args := #[] } :: a.defers } W) :
    (Code.rangeFunc g ps assign body).wp P Q a w := by
  refine (wpIn_wide (n := 9)).1 (wpIn_rangeFunc ?_)
  intro fn hfn
  obtain ⟨rec, hrec⟩ : ∃ rec : LoopState → Option Code → Loop, rec = fun st pe => { state := st, pending := pe, fn, tmps := a.tmps, params := ps, assign, body, defers := w.heap.size } := ⟨_, rfl⟩
  obtain ⟨W1, hW1⟩ : ∃ W1, (w.alloc (.deferred (some []))).alloc (.loop (rec .ready none)) = W1 := ⟨_, rfl⟩
  have hL1 : W1.heap[w.heap.size + 1]? = some (.loop (rec .ready none)) := by
    rw [← hW1]; have := World.alloc_heap_new (w.alloc (.deferred (some []))) (.loop (rec .ready none)); rwa [World.size_alloc] at this
  have hK1 : W1.heap[w.heap.size]? = some (.deferred (some [])) := by
    rw [← hW1]; exact (Below.heap_alloc _ _ _ (by simp)).trans (World.alloc_heap_new w _)
  have hk1 : Kept (fun _ => False) w W1 := by rw [← hW1]; exact ((Kept.refl _ w).alloc _).alloc _
  have hI1 : I [] W1 := hI _ _ _ h0 (hk1.mono fun _ _ h => h.elim)
  have no : ∀ k, own k → k ≠ w.heap.size ∧ k ≠ w.heap.size + 1 := fun k h => ⟨by have := ho k h; omega, by have := ho k h; omega⟩
  refine ⟨w.heap.size + 1, [{ target := .collected w.heap.size, args := #[] }], W1, { target := .fn (.func gf) lb, args := #[.func (.yield (w.heap.size + 1)) #[] #[]] }, W1, gf,
    #[.func (.yield (w.heap.size + 1)) #[] #[]] ++ lb, W1, ?_, ?_, fun _ _ => trivial, ?_, fun _ => by omega, ?_⟩
  · rw [← hW1, hrec]; exact run_enterLoop_outer _ _ _ _ _
  · simp only [resolve, hg]
    simp [go_sem]
  · simp [invoke, go_sem, eg]
  · refine (hit (w.heap.size + 1)
      (fun pre W => (I pre W ∧ W1.heap.size ≤ W.heap.size) ∧ W.heap[w.heap.size + 1]? = some (.loop (rec .ready none)) ∧ W.heap[w.heap.size]? = some (.deferred (some [])))
      (fun pre W => ∃ c, Ix c pre W ∧ W.heap[w.heap.size + 1]? = some (.loop (rec .done (some c))) ∧ W.heap[w.heap.size]? = some (.deferred (some [])))
      W1 hk1
      (fun pre A B hs hk => ⟨⟨hI _ _ _ hs.1.1 (hk.mono fun _ _ h => .inl h), Nat.le_trans hs.1.2 hk.size⟩, hk.heap hs.2.1 (fun h => (no _ h).2 rfl), hk.heap hs.2.2 (fun h => (no _ h).1 rfl)⟩)
      (fun pre A B hs hk => by
        obtain ⟨c, hc, hl, hd⟩ := hs
        exact ⟨c, hIx _ _ _ _ hc (hk.mono fun _ _ h => .inl h), hk.heap hl (fun h => (no _ h).2 rfl), hk.heap hd (fun h => (no _ h).1 rfl)⟩)
      ?_ ⟨⟨hI1, Nat.le_refl _⟩, hL1, hK1⟩).mono ?_
    · -- one round
      rintro pre x post W hxs ⟨⟨hi, hsz⟩, hl, hk⟩
      have hlt : w.heap.size + 1 < W.heap.size := (Array.getElem?_eq_some_iff.1 hl).1
      have hy := run_yield (P := P) (args := encs x) hl (by rw [hrec]; exact hps x)
      rw [hrec] at hy
      have hlA := (hwA x W).heap hl (by simp)
      have hsA := (hwA x W).size
      refine ⟨fn, _, assign, body, hy, roundIn_of_wpIn trivial (hassign _ x W _ ⟨_, run_beginRound hlA (by rw [hrec]), ?_⟩)⟩
      obtain ⟨W2, hW2⟩ : ∃ W2, W2 = (wA x W).putObj (w.heap.size + 1) (.loop { rec .ready none with state := .busy }) := ⟨_, rfl⟩
      rw [← hW2]
      have kp2 : Kept (fun k => k = w.heap.size + 1) (wA x W) W2 := by rw [hW2]; exact putObj_kept _ _ _
      have hl2 : W2.heap[w.heap.size + 1]? = some (.loop { rec .ready none with state := .busy }) := by rw [hW2]; exact World.putObj_heap_same (by omega)
      have hk2 : W2.heap[w.heap.size]? = some (.deferred (some [])) := kp2.heap ((hwA x W).heap hk (by simp)) (by omega)
      have hs2 : W2.heap.size = (wA x W).heap.size := by rw [hW2]; simp [World.putObj]
      refine wpIn_mono (hbody _ pre x post W W2 hxs hi (by omega) kp2 hk2 ⟨_, hl2⟩) ?_
      have fin : ∀ (jump : Option Code) (W3 : World), (∀ k, (k = w.heap.size ∨ k = w.heap.size + 1) → W3.heap[k]? = W2.heap[k]?) →
          (Instr.endRound (w.heap.size + 1) jump).run P W3 = .ok (.bool jump.isNone) (W3.putObj (w.heap.size + 1) (.loop (rec (if jump.isNone then .ready else .done) jump))) ∧
          (W3.putObj (w.heap.size + 1) (.loop (rec (if jump.isNone then .ready else .done) jump))).heap[w.heap.size + 1]? = some (.loop (rec (if jump.isNone then .ready else .done) jump)) ∧
          (W3.putObj (w.heap.size + 1) (.loop (rec (if jump.isNone then .ready else .done) jump))).heap[w.heap.size]? = some (.deferred (some [])) := fun jump W3 hk3 => by
        have hl3 := (hk3 (w.heap.size + 1) (.inr rfl)).trans hl2
        have := run_endRound (P := P) jump hl3
        rw [hrec] at this ⊢
        exact ⟨this, World.putObj_heap_same (Array.getElem?_eq_some_iff.1 hl3).1, (World.putObj_heap_other (by omega)).trans ((hk3 _ (.inl rfl)).trans hk2)⟩
      rintro e a3 W3 hp
      cases e with
      | normal =>
        obtain ⟨⟨hs3, hk3⟩, hi3⟩ := hp
        obtain ⟨hr', hl4, hk4⟩ := fin none W3 (fun k hk => hk3 k (.inr hk))
        refine ⟨_, _, hr', .inl ⟨rfl, ⟨⟨hI _ _ _ hi3 ((putObj_kept _ _ _).mono fun _ _ h => .inr (.inr h)), ?_⟩, hl4, hk4⟩, ?_, fun k hk => ?_⟩⟩
        · simp [World.putObj]; omega
        · simp [World.putObj]; omega
        · have := hr k hk
          rw [World.putObj_heap_other (by omega), hk3 k (.inl hk)]
          exact (kp2.block k (by omega) (by omega)).trans ((hwA x W).block k (by omega) (by simp))
      | ret =>
        obtain ⟨hr', hl4, hk4⟩ := fin (some .ret) W3 hp.1
        exact ⟨_, _, hr', .inr ⟨rfl, .ret, hIx _ _ _ _ hp.2 ((putObj_kept _ _ _).mono fun _ _ h => .inr (.inr h)), hl4, hk4⟩⟩
      | exit id =>
        obtain ⟨hr', hl4, hk4⟩ := fin (some (.exit id)) W3 hp.1
        exact ⟨_, _, hr', .inr ⟨rfl, .exit id, hIx _ _ _ _ hp.2 ((putObj_kept _ _ _).mono fun _ _ h => .inr (.inr h)), hl4, hk4⟩⟩
      | goto t =>
        obtain ⟨hr', hl4, hk4⟩ := fin (some (.goto t)) W3 hp.1
        exact ⟨_, _, hr', .inr ⟨rfl, .goto t, hIx _ _ _ _ hp.2 ((putObj_kept _ _ _).mono fun _ _ h => .inr (.inr h)), hl4, hk4⟩⟩
      | panic ch => exact hp.elim
      | outgrown => exact hp.elim
    · -- behind the iterator
      rintro e W2 ⟨⟨v, rfl⟩, (⟨⟨hi, _⟩, hl, hk⟩ | ⟨pre, hpre, c, hi, hl, hk⟩)⟩
      · exact ⟨none, _, by have := run_endLoop (P := P) hl (by rw [hrec]; simp); rw [hrec] at this; exact this, hdone _ (hI _ _ _ hi ((putObj_kept _ _ _).mono fun _ _ h => .inr (.inr h))) ((World.putObj_heap_other (by omega)).trans hk)⟩
      · exact ⟨some c, _, by have := run_endLoop (P := P) hl (by rw [hrec]; simp); rw [hrec] at this; exact this, wpIn_wide.2 (hstop c pre _ hpre (hIx _ _ _ _ hi ((putObj_kept _ _ _).mono fun _ _ h => .inr (.inr h))) ((World.putObj_heap_other (by omega)).trans hk))⟩

/-- The pairs that Put builds, in its variable at O. -/
structure PutSt (w : World) (O : Nat) (W : World) (v : Value) (qs : List PV) : Prop where
  box : Boxed W O 30 v
  row : W.ownsRow (O + 1) 53 3 v qs.length (cellsP qs)
  own : ∀ q ∈ qs, W.ownsRow (O + 1) 5 1 q.val q.b.length (q.b.map bv)
  kept : Kept (fun _ => False) w W
section
variable {w W W' : World} {O : Nat} {v v' : Value} {qs qs' : List PV}
theorem PutSt.stay (h : PutSt w O W v qs) (hk : Kept (fun _ => False) W W') : PutSt w O W' v qs := ⟨hk.heap h.box (by simp), own_kept h.row hk (by simp), fun q hq => own_kept (h.own q hq) hk (by simp), h.kept.trans' hk⟩
theorem PutSt.ok (h : PutSt w O W v qs) : ∀ q ∈ qs, q.Ok W := fun q hq => PV.ok_own (h.own q hq)
theorem PutSt.at_ (h : PutSt w O W v qs) : ∃ A c, v = .slice A qs.length c ∧ (A = none → c = 0) ∧ qs.length ≤ c ∧ PsAt W A qs := by
  obtain ⟨A, c, h1, h2, h3, -, h4, -⟩ := row_form h.row h.ok
  exact ⟨A, c, h1, h2, h3, h4⟩
theorem PutSt.next (h : PutSt w O W v qs) (hO : O = w.heap.size) (hk : Kept (fun k => v.ownBlock = some k) W W') (hr : W'.ownsRow (O + 1) 53 3 v' qs'.length (cellsP qs')) (hv : ∀ q ∈ qs', W.ownsRow (O + 1) 5 1 q.val q.b.length (q.b.map bv)) : PutSt w O (W'.setCell ⟨O, 0, none⟩ v') v' qs' := by
  have hkO : Kept (fun k => k = O) W' (W'.setCell ⟨O, 0, none⟩ v') := (Kept.refl (fun k => k = O) W').setCell (fun _ => rfl) _
  have hOb : Boxed W' O 30 v := hk.heap h.box fun e => by have := own_ge h.row O e; omega
  refine ⟨hOb.set v', own_kept hr hkO fun k e e2 => by have := own_ge hr k e; omega, fun q hq => ?_, ?_⟩
  · have h1 := own_kept (hv q hq) hk fun k e => own_apart h.row (hv q hq) k e
    exact own_kept h1 hkO fun k e e2 => by have := own_ge h1 k e; omega
  · exact (h.kept.trans hk fun i hi e => by have := own_ge h.row i e; omega).trans hkO fun i hi e => by omega
theorem PutSt.ownP (h : PutSt w O W v qs) (hO : O = w.heap.size) : OwnP w W v qs := ⟨own_low h.row (by omega), fun q hq => own_low (h.own q hq) (by omega), h.kept⟩
/-- None of its blocks is D, nor D + 1. -/
def PutSt.No (D : Nat) (v : Value) (qs : List PV) : Prop := ∀ k, (k = D ∨ k = D + 1) → v.ownBlock ≠ some k ∧ ∀ q ∈ qs, q.val.ownBlock ≠ some k
theorem PutSt.carry {D : Nat} (h : PutSt w O W v qs) (hn : PutSt.No D v qs) (hO : O = w.heap.size) (hD : O < D) (hk : Kept (fun k => False ∨ k = D ∨ k = D + 1) W W') : PutSt w O W' v qs :=
  ⟨hk.heap h.box (fun e => by rcases e with e | e | e; exact e; omega; omega), own_kept h.row hk fun k e e2 => (hn k (e2.resolve_left id)).1 e, fun q hq => own_kept (h.own q hq) hk fun k e e2 => (hn k (e2.resolve_left id)).2 q hq e, h.kept.trans hk fun i hi e => by rcases e with e | e | e; exact e; omega; omega⟩
end
end Go.Proofs.YtcifhfdjigfeiaaGreatDoor
end

/-! keyed.Put: the copy; the rounds. -/
section
set_option linter.unusedVariables false
set_option linter.unusedSimpArgs false
namespace Go.Proofs.YtcifhfdjigfeiaaGreatDoor
open Go.RowKit Go.Sort
attribute [local go_sem] Oper.semAt_some

theorem BoxP.set1 {W : World} {D : Nat} {p : PV} (h : BoxP W D p) (A' : Option Addr) (c' : Nat) : BoxP (W.setCell ⟨D, 1, none⟩ (.slice A' p.b.length c')) D ⟨p.key, p.b, p.gone, A', c'⟩ := by
  unfold BoxP World.setCell; simp only [Array.getElem?_modify, if_true, show W.heap[D]? = _ from h]; rfl
theorem PutSt.boxGrown {w W W' : World} {O : Nat} {v : Value} {qs : List PV} (h : PutSt w O W v qs) (hg : Kept (fun k => v.ownBlock = some k) W W') : Boxed W' O 30 v := hg.heap h.box fun e => by have := own_ge h.row O e; omega
theorem PutSt.No.mono {D : Nat} {v : Value} {qs : List PV} (h : PutSt.No D v qs) : ∀ q ∈ qs, ∀ k, (k = D ∨ k = D + 1) → q.val.ownBlock ≠ some k := fun q hq k hk => (h k hk).2 q hq
theorem PutSt.off {w W W' : World} {O Db : Nat} {v : Value} {qs : List PV} (h : PutSt w O W v qs) (hk : Kept (fun k => k = Db) W W') (hO : O ≠ Db) (hDb : w.heap.size ≤ Db) (hv : v.ownBlock ≠ some Db) (hq : ∀ q ∈ qs, q.val.ownBlock ≠ some Db) : PutSt w O W' v qs :=
  ⟨hk.heap h.box hO, own_kept h.row hk fun k e e2 => hv (e2 ▸ e), fun q hq' => own_kept (h.own q hq') hk fun k e e2 => hq q hq' (e2 ▸ e), h.kept.trans hk fun i hi e => by omega⟩
/-- slices.Delete, at the pairs that Put builds. -/
theorem del_step {w W : World} {O i j lq cv : Nat} {Av : Option Addr} {qs : List PV} (h : PutSt w O W (.slice Av lq cv) qs) (hlq : lq = qs.length) (hi : i < lq) (hj : j = i + 1) (hl : lq ≤ 1000000) :
    Calls Tryz.prog 56 #[.slice Av lq cv, .int .i64 i, .int .i64 j] W fun e w' => e = .returned (.slice Av (lq - 1) cv) ∧ w'.ownsRow (O + 1) 53 3 (.slice Av (lq - 1) cv) (qs.take i ++ qs.drop (i + 1)).length (cellsP (qs.take i ++ qs.drop (i + 1))) ∧ Kept (fun k => (Value.slice Av lq cv).ownBlock = some k) W w' := by
  have hrow := h.row
  rw [← hlq] at hrow
  have hlen : (qs.take i ++ qs.drop (i + 1)).length = lq - 1 := by simp only [List.length_append, List.length_take, List.length_drop]; omega
  rcases hrow.2 with ⟨hv0, h0⟩ | ⟨g, cap, _, hv0, _⟩
  · omega
  · simp only [Value.slice.injEq] at hv0
    obtain ⟨rfl, -, rfl⟩ := hv0
    refine (deleteP_any W (O + 1) g lq cv i j qs hrow hi hj hl).mono ?_
    rintro e w' ⟨rfl, ho, hk⟩
    exact ⟨rfl, by rw [hlen]; exact ho, hk.mono fun k _ e => by subst e; rfl⟩
theorem ins_step {w W : World} {O i lq cv B : Nat} {Av : Option Addr} {qs : List PV} {p : PV} (h : PutSt w O W (.slice Av lq cv) qs) (hlq : lq = qs.length) (hi : i ≤ lq) (hl : lq ≤ 900000) (hN : NewP W B p) (hB : (Value.slice Av lq cv).ownBlock ≠ some B) (hO : O + 1 ≤ W.heap.size) :
    Calls Tryz.prog 57 #[.slice Av lq cv, .int .i64 i, .slice (some ⟨B, 0, none⟩) 1 1] W fun e w' => ∃ A7 c7, e = .returned (.slice A7 (lq + 1) c7) ∧ w'.ownsRow (O + 1) 53 3 (.slice A7 (lq + 1) c7) (qs.take i ++ [p] ++ qs.drop i).length (cellsP (qs.take i ++ [p] ++ qs.drop i)) ∧ Kept (fun k => (Value.slice Av lq cv).ownBlock = some k) W w' := by
  have hlen : (qs.take i ++ [p] ++ qs.drop i).length = lq + 1 := by simp only [List.length_append, List.length_take, List.length_drop, List.length_cons, List.length_nil]; omega
  rw [hlen]
  refine (insertP_any W (O + 1) lq i B _ qs p (by have := h.row; rwa [← hlq] at this) h.ok hN hB hi hO hl).mono ?_
  rintro e w' ⟨v', rfl, ho, hk⟩
  obtain ⟨A7, c7, rfl⟩ := own_slice ho
  exact ⟨A7, c7, rfl, ho, hk⟩
theorem fin_core {qs : List PV} {P : List Core} {pre : List PV} {x q : PV} (h : qs.map PV.core = putC P (pre.map PV.core)) (hq : q.core = (x.key, x.b, false)) : (new1 qs x q).map PV.core = putC P ((pre ++ [x]).map PV.core) := by
  rw [new1_core qs x q hq, h]
  unfold putC
  rw [List.map_append, List.foldl_append]
  rfl
theorem set_size (W : World) (a : Addr) (u : Value) : (W.setCell a u).heap.size = W.heap.size := by simp [World.setCell]
theorem set3 (X Y : List Value) (r0 r1 r2 a b c : Value) (k : Nat) (hk : X.length = k) : (((X ++ r0 :: r1 :: r2 :: Y).set k a).set (k + 1) b).set (k + 2) c = X ++ a :: b :: c :: Y := by
  subst hk
  rw [List.set_append_right _ _ (Nat.le_refl _), Nat.sub_self, List.set_cons_zero, List.set_append_right _ _ (by omega), show X.length + 1 - X.length = 1 by omega, List.set_cons_succ, List.set_cons_zero, List.set_append_right _ _ (by omega), show X.length + 2 - X.length = 2 by omega, List.set_cons_succ, List.set_cons_succ, List.set_cons_zero]
theorem set_cells (qs : List PV) (i : Nat) (q : PV) (hi : i < qs.length) : ((((cellsP qs).set (i * 3) (.string q.key)).set (i * 3 + 1) q.val).set (i * 3 + 2) (.bool q.gone)) = cellsP (qs.take i ++ [q] ++ qs.drop (i + 1)) := by
  have hd : qs = qs.take i ++ qs[i] :: qs.drop (i + 1) := by
    conv => lhs; rw [← List.take_append_drop i qs, List.drop_eq_getElem_cons hi]
  have e : cellsP qs = cellsP (qs.take i) ++ (Value.string qs[i].key :: qs[i].val :: Value.bool qs[i].gone :: cellsP (qs.drop (i + 1))) := by
    conv => lhs; rw [hd, cellsP_append]
    rfl
  rw [e, set3 _ _ _ _ _ _ _ _ (i * 3) (by rw [cellsP_len, List.length_take]; omega), List.append_assoc, cellsP_append]
  rfl
/-- A round's end where a pair is stored over another. -/
theorem put_set {w W W5 : World} {O D Db G lq cv i : Nat} {qs : List PV} {q : PV} {rd : Nat → Prop} (hO : O = w.heap.size) (hOD : O < D) (hDb : D + 2 ≤ Db) (hsz : D + 2 ≤ W.heap.size) (hrd : ∀ k, rd k → k < w.heap.size)
    (st : PutSt w O W5 (.slice (some ⟨G, 0, none⟩) lq cv) qs) (hlq : lq = qs.length) (hi : i < lq) (no : PutSt.No D (.slice (some ⟨G, 0, none⟩) lq cv) qs) (hk5 : Kept (fun k => k = Db) W W5) (hq : W5.ownsRow (O + 1) 5 1 q.val q.b.length (q.b.map bv)) (hnq : ∀ k, (k = D ∨ k = D + 1) → q.val.ownBlock ≠ some k) :
    let W8 := ((W5.setCell ⟨G, i * 3, none⟩ (.string q.key)).setCell ⟨G, i * 3 + 1, none⟩ q.val).setCell ⟨G, i * 3 + 2, none⟩ (.bool q.gone)
    (W.heap.size ≤ W8.heap.size ∧ ∀ k, (rd k ∨ k = D ∨ k = D + 1) → W8.heap[k]? = W.heap[k]?) ∧ PutSt w O W8 (.slice (some ⟨G, 0, none⟩) lq cv) (qs.take i ++ [q] ++ qs.drop (i + 1)) ∧ PutSt.No D (.slice (some ⟨G, 0, none⟩) lq cv) (qs.take i ++ [q] ++ qs.drop (i + 1)) := by
  intro W8
  have hk8 : Kept (fun k => k = G) W5 W8 := ((((Kept.refl (fun k => k = G) W5).setCell (fun _ => rfl) _).setCell (fun _ => rfl) _).setCell (fun _ => rfl) _)
  have hG := own_ge st.row G rfl
  have hlen : (qs.take i ++ [q] ++ qs.drop (i + 1)).length = qs.length := by simp only [List.length_append, List.length_take, List.length_drop, List.length_cons, List.length_nil]; omega
  have hs5 := hk5.size
  have key : ∀ k, k < W.heap.size → k ≠ Db → k ≠ G → W8.heap[k]? = W.heap[k]? := fun k h1 h2 h3 => (hk8.block k (by omega) h3).trans (hk5.block k h1 h2)
  have hGD : ∀ k, (k = D ∨ k = D + 1) → k ≠ G := fun k hk e => (no k hk).1 (by rw [e]; rfl)
  refine ⟨⟨by have := hk8.size; omega, fun k hk => ?_⟩, ⟨hk8.heap st.box (by omega), ?_, fun r hr => ?_, st.kept.trans hk8 fun i hi e => by omega⟩, fun k hk => ⟨(no k hk).1, fun r hr => ?_⟩⟩
  · rcases hk with hk | hk | hk
    · have := hrd k hk; exact key k (by omega) (by omega) (by omega)
    · exact key k (by omega) (by omega) (hGD k (.inl hk))
    · exact key k (by omega) (by omega) (hGD k (.inr hk))
  · have hrow := st.row
    rw [← hlq] at hrow
    have h1 := (hrow.stored (i * 3) (.string q.key)).1
    have h2 := (h1.stored (i * 3 + 1) q.val).1
    have h3 := (h2.stored (i * 3 + 2) (.bool q.gone)).1
    rw [set_cells qs i q (by omega)] at h3
    rw [hlen, ← hlq]
    exact h3
  · have hr' : W5.ownsRow (O + 1) 5 1 r.val r.b.length (r.b.map bv) := by
      rcases List.mem_append.1 hr with hr | hr
      · rcases List.mem_append.1 hr with hr | hr
        · exact st.own r (mem_take r hr)
        · rw [List.mem_singleton.1 hr]; exact hq
      · exact st.own r (mem_drop r hr)
    exact own_kept hr' hk8 fun k e e2 => own_apart st.row hr' k e (by rw [e2]; rfl)
  · rcases List.mem_append.1 hr with hr | hr
    · rcases List.mem_append.1 hr with hr | hr
      · exact no.mono r (mem_take r hr) k hk
      · rw [List.mem_singleton.1 hr]; exact hnq k hk
    · exact no.mono r (mem_drop r hr) k hk
/-- A pair's three cells. -/
theorem row_cells {W : World} {base G n cap i : Nat} {qs : List PV} (h : W.ownsRow base 53 3 (.slice (some ⟨G, 0, none⟩) n cap) qs.length (cellsP qs)) (hi : i < qs.length) :
    (∃ u, W.cell? ⟨G, i * 3, none⟩ = some u) ∧ (∃ u, W.cell? ⟨G, i * 3 + 1, none⟩ = some u) ∧ (∃ u, W.cell? ⟨G, i * 3 + 2, none⟩ = some u) ∧ W.frozen? ⟨G, i * 3, none⟩ = false ∧ W.frozen? ⟨G, i * 3 + 1, none⟩ = false ∧ W.frozen? ⟨G, i * 3 + 2, none⟩ = false := by
  rcases h.2 with ⟨hv, _⟩ | ⟨g, cap', cur, hv, hb, hh, hsz, hc, h63, ht⟩
  · cases hv
  · simp only [Value.slice.injEq, Option.some.injEq, Addr.mk.injEq] at hv
    obtain ⟨⟨rfl, -⟩, rfl, rfl⟩ := hv
    refine ⟨⟨cur[i * 3]'(by omega), by simp [World.cell?, hh]⟩, ⟨cur[i * 3 + 1]'(by omega), by simp [World.cell?, hh]⟩, ⟨cur[i * 3 + 2]'(by omega), by simp [World.cell?, hh]⟩, ?_, ?_, ?_⟩ <;> simp [World.frozen?, hh]
/-- A round's end. -/
theorem put_round {w W W5 W7 : World} {O D Db : Nat} {v v' : Value} {qs qs' : List PV} {rd : Nat → Prop} (hO : O = w.heap.size) (hOD : O < D) (hDb : D + 2 ≤ Db) (hsz : D + 2 ≤ W.heap.size) (hdef : W.heap[D]? = some (.deferred (some []))) (hloop : ∃ r, W.heap[D + 1]? = some (.loop r)) (hrd : ∀ k, rd k → k < w.heap.size)
    (st : PutSt w O W5 v qs) (no : PutSt.No D v qs) (hk5 : Kept (fun k => k = Db) W W5) (hk7 : Kept (fun k => v.ownBlock = some k) W5 W7) (hr : W7.ownsRow (O + 1) 53 3 v' qs'.length (cellsP qs')) (hv : ∀ q ∈ qs', W5.ownsRow (O + 1) 5 1 q.val q.b.length (q.b.map bv)) (hnv : ∀ q ∈ qs', ∀ k, (k = D ∨ k = D + 1) → q.val.ownBlock ≠ some k) :
    (W.heap.size ≤ (W7.setCell ⟨O, 0, none⟩ v').heap.size ∧ ∀ k, (rd k ∨ k = D ∨ k = D + 1) → (W7.setCell ⟨O, 0, none⟩ v').heap[k]? = W.heap[k]?) ∧ PutSt w O (W7.setCell ⟨O, 0, none⟩ v') v' qs' ∧ PutSt.No D v' qs' := by
  have hn := st.next hO hk7 hr hv
  have hkO : Kept (fun k => k = O) W7 (W7.setCell ⟨O, 0, none⟩ v') := (Kept.refl (fun k => k = O) W7).setCell (fun _ => rfl) _
  have hs5 := hk5.size
  have hs7 := hk7.size
  have key : ∀ k, k < W.heap.size → k ≠ Db → v.ownBlock ≠ some k → k ≠ O → (W7.setCell ⟨O, 0, none⟩ v').heap[k]? = W.heap[k]? := fun k h1 h2 h3 h4 =>
    ((hkO.block k (by omega) h4).trans (hk7.block k (by omega) h3)).trans (hk5.block k h1 h2)
  refine ⟨⟨by have := hkO.size; omega, fun k hk => ?_⟩, hn, fun k hk => ⟨fun e => ?_, fun q hq => hnv q hq k hk⟩⟩
  · rcases hk with hk | hk | hk
    · have := hrd k hk
      exact key k (by omega) (by omega) (fun e => by have := own_ge st.row k e; omega) (by omega)
    · exact key k (by omega) (by omega) (no k (.inl hk)).1 (by omega)
    · exact key k (by omega) (by omega) (no k (.inr hk)).1 (by omega)
  · have h1 := key k (by omega) (by omega) (no k hk).1 (by omega)
    rcases hn.row.2 with ⟨hv0, _⟩ | ⟨g, _, _, hv0, _, hh, _⟩
    · rw [hv0] at e; cases e
    · have hg : g = k := by rw [hv0] at e; simpa [Value.ownBlock] using e
      subst hg
      rw [h1] at hh
      rcases hk with rfl | rfl
      · rw [hdef] at hh; simp at hh
      · obtain ⟨r, hr'⟩ := hloop
        rw [hr'] at hh; simp at hh
theorem put_start (w : World) (O : Nat) (hO : O = w.heap.size) : PutSt w O (w.alloc (.cells #[.slice none 0 0] 30)) (.slice none 0 0) [] := by
  subst hO
  exact ⟨Boxed.new w 30 _, World.ownsRow_nil _ _ _ _, fun q h => by simp at h, (Kept.refl _ w).alloc _⟩
set_option maxRecDepth 100000 in
set_option maxHeartbeats 8000000 in
theorem kPut_any (w : World) (A B : Option Addr) (n c m d : Nat) (ps ms : List PV) (hn : n = ps.length) (hm : m = ms.length) (hl : n + m ≤ 400000) (hb : ∀ p ∈ ps, p.b.length ≤ 1000000000) (hb2 : ∀ p ∈ ms, p.b.length ≤ 1000000000) (h : PsAt w A ps) (h2 : PsAt w B ms) :
    Calls Tryz.prog 33 #[.slice A n c, .slice B m d] w fun e w' => ∃ v qs, e = .returned v ∧ OwnP w w' v qs ∧ qs.map PV.core = putC (ps.map PV.core) (ms.map PV.core) := by
  refine calls_of_marks Tryz.func33 rfl ?_
  simp only [Tryz.ntmps33, List.size_toArray, List.length_cons, List.length_nil, Nat.reduceAdd, Nat.reduceSub, Array.replicate_succ, Array.replicate_zero, List.push_toArray, List.append_toArray, List.nil_append, List.cons_append]
  have H := Lib.hid h
  have H2 := Lib.hid h2
  have Hn := Lib.hid hn
  have Hm := Lib.hid hm
  have Hb := Lib.hid hb
  have Hb2 := Lib.hid hb2
  have hn8 : (n : Int) ≤ 400000 := by omega
  obtain ⟨O, hO⟩ : ∃ O, O = w.heap.size := ⟨_, rfl⟩
  have HO := Lib.hid hO
  have HSt := Lib.hid (put_start w O hO)
  obtain ⟨W0, hW0⟩ : ∃ W0, W0 = w.alloc (.cells #[.slice none 0 0] 30) := ⟨_, rfl⟩
  rw [← hW0] at HSt
  clear h h2 hn hm hb hb2
  go_upto_region 2 with fail
  rw [← hO, ← hW0]
  clear hO hW0
  go_wp2_with fail
  go_loopw [7, 13] (fun _ i wr => ∃ (k : Nat) (v : Value) (qs : List PV), k ≤ n ∧ i = .int .i64 k ∧ Hid (PutSt w O wr v qs) ∧ Hid (qs.map PV.core = (ps.take k).map PV.core)) (fun _ i _ => n - (intOf i).toNat)
  case atStart => exact ⟨0, _, [], by omega, rfl, HSt, Lib.hid rfl⟩
  case round =>
    obtain ⟨k, v, qs, hk, rfl, hs, hc⟩ := hrel
    by_cases hlt : k < n
    · have hk9 : (k : Int) < (n : Int) := by omega
      obtain ⟨p, hp⟩ : ∃ p, ps[k]? = some p := ⟨_, List.getElem?_eq_getElem (by have := Hn.out; omega)⟩
      obtain ⟨a1, rfl, hc1, ok1⟩ := H.out k p hp
      have hbl := Hb.out p (List.mem_of_getElem? hp)
      have hq9 : qs.length = k := by
        have := congrArg List.length hc.out
        simp only [List.length_map, List.length_take] at this
        have := Hn.out; omega
      have Hq9 := Lib.hid hq9
      have x0 := hs.out.kept.cell hc1.c0 (by simp)
      have x1 := hs.out.kept.cell hc1.c1 (by simp)
      have x2 := hs.out.kept.cell hc1.c2 (by simp)
      have Hp := Lib.hid hp
      obtain ⟨D, hD⟩ : ∃ D, D = wr.heap.size := ⟨_, rfl⟩
      obtain ⟨W1, hW1⟩ : ∃ W1, W1 = wr.alloc (.cells #[.string p.key, .slice p.A p.b.length p.c, .bool p.gone] 53) := ⟨_, rfl⟩
      have HB1 : Hid (BoxP W1 D p) := Lib.hid (by rw [hW1, hD]; exact boxP_new wr p)
      have HK1 : Hid (Kept (fun _ => False) wr W1) := Lib.hid (by rw [hW1]; exact (Kept.refl _ wr).alloc _)
      have Hok := Lib.hid (ok1.kept (hs.out.kept.trans' HK1.out))
      have HDs := Lib.hid hD
      have d1 := HB1.out.c1
      unfold PV.val at x1 d1
      clear hp hc1 ok1 hq9
      go_upto_region 5 with fail
      rw [← hD, ← hW1]
      clear hD hW1 x0 x1 x2
      have HO1 : Hid (O + 1 ≤ W1.heap.size) := Lib.hid (by have h1 := Boxed.lt hs.out.box; have := HK1.out.size; omega)
      go_upto_region 6 with (go_at_call 30; refine (clone_any W1 p.A p.b.length p.c p.b rfl hbl Hok.out.1 Hok.out.2).mono ?_; rintro e w4 hP; obtain ⟨A4, c4, rfl, ha, -, -⟩ := ClonePost.acc hP; have HV4 := Lib.hid (own_low ha.1 HO1.out); have HB4 := Lib.hid (HB1.out.kept ha.2 (by simp)); have HK4 := Lib.hid (HK1.out.trans' ha.2); have e1 := HB4.out.c1; have f1 := HB4.out.fz 1; clear hP ha)
      obtain ⟨W5, hW5⟩ : ∃ W5, W5 = w4.setCell ⟨D, 1, none⟩ (.slice A4 p.b.length c4) := ⟨_, rfl⟩
      have hD9 : ∀ k, k < wr.heap.size → k ≠ D := fun k h e => by have := HDs.out; omega
      have hk5 : Kept (fun k => k = D) w4 W5 := by rw [hW5]; exact (Kept.refl (fun k => k = D) w4).setCell (fun _ => rfl) _
      have HK5 : Hid (Kept (fun _ => False) wr W5) := Lib.hid (HK4.out.trans hk5 fun i hi e => absurd e (hD9 i hi))
      have HB5 : Hid (BoxP W5 D ⟨p.key, p.b, p.gone, A4, c4⟩) := Lib.hid (by rw [hW5]; exact HB4.out.set1 A4 c4)
      have HV5 : Hid (W5.ownsRow (O + 1) 5 1 (.slice A4 p.b.length c4) p.b.length (p.b.map bv)) := Lib.hid (own_kept HV4.out hk5 fun k e e2 => (by subst e2; exact HB4.out.no HV4.out e))
      have HS5 := Lib.hid (hs.out.stay HK5.out)
      have y0 := HB5.out.c0
      have y1 := HB5.out.c1
      have y2 := HB5.out.c2
      have yo := HS5.out.box.cell
      rw [← hW5]
      unfold PV.val at y1
      dsimp only at y0 y1 y2
      have HO5 : Hid (O + 1 ≤ W5.heap.size) := Lib.hid (by have h1 := Boxed.lt hs.out.box; have := HK5.out.size; omega)
      clear hW5 hk5 e1 f1 d1 hD9
      go_wp2_with (at_builtin; refine wpList_append_ps rfl _ _ rfl (O + 1) v _ _ rfl (own_kept HS5.out.row ((Kept.refl (fun _ => False) W5).alloc _) (by simp)) _ 1 1 [.string p.key, .slice A4 p.b.length c4, .bool p.gone] rfl (cs_new _ _ _) rfl (by simp [Value.oneCell']) (fun e => by cases e) (by rw [Hq9.out]; omega) (Nat.le_trans HO5.out ((Kept.refl (fun _ => False) W5).alloc _).size) ?_; intro v7 w7 hown hgrow; obtain ⟨A7, c7, rfl⟩ := own_slice hown; have hkg := (Kept.refl (fun k => v.ownBlock = some k) _).grown hgrow (fun k e _ => e); have hst := HS5.out.stay ((Kept.refl (fun _ => False) W5).alloc (.cells #[.string p.key, .slice A4 p.b.length c4, .bool p.gone] 53)); have HN := Lib.hid (hst.next (qs' := qs ++ [⟨p.key, p.b, p.gone, A4, c4⟩]) HO.out hkg (by rw [List.length_append, cellsP_append, cellsP_single]; exact hown) (fun q hq => by rcases List.mem_append.1 hq with hq | hq; exact hst.own q hq; rw [List.mem_singleton.1 hq]; exact own_kept HV5.out ((Kept.refl (fun _ => False) W5).alloc _) (by simp))); have bo := (hst.boxGrown hkg).cell; have fo := (hst.boxGrown hkg).frozen; clear hown hgrow hkg hst)
      go_roundw
      case rel =>
        refine ⟨k + 1, _, _, by omega, by go_num, HN, Lib.hid ?_⟩
        rw [List.map_append, hc.out, List.take_add_one, Hp.out, List.map_append]
        rfl
      case measure => simp [intOf]; omega
    · obtain rfl : k = n := by omega
      have hcc : qs.map PV.core = ps.map PV.core := by
        have h1 := hc.out
        rwa [show ps.take k = ps by rw [Hn.out, List.take_length]] at h1
      have Hcc := Lib.hid hcc
      clear hcc hc HSt
      go_wp2_with (go_at_call 54; refine (valuesP_of _ _ _ _).mono ?_; rintro e w2 ⟨rfl, rfl⟩)
      obtain ⟨W2, hW2⟩ : ∃ W2, W2 = wr.alloc (.cells #[.slice B m d] 30) := ⟨_, rfl⟩
      rw [← hW2]
      have hk2 : Kept (fun _ => False) wr W2 := by rw [hW2]; exact (Kept.refl _ wr).alloc _
      have hblk : ∀ ad, B = some ad → ms = [] ∨ ad.block < w.heap.size := by
        intro ad e
        cases hms : ms with
        | nil => exact .inl rfl
        | cons q ms' =>
          obtain ⟨ad', e', hc', _⟩ := H2.out 0 q (by rw [hms]; rfl)
          rw [e] at e'; injection e' with e'; subst e'
          have := World.block_lt_of_cell? w _ hc'.c0
          rw [add_block] at this
          exact .inr this
      have hst2 := hs.out.stay hk2
      have hOlt : O < W2.heap.size := Boxed.lt hst2.box
      have hit := valuesP_iter wr.heap.size m d B ms W2 (by rw [hW2]; exact Boxed.new wr 30 _) Hm.out (by omega) (H2.out.kept hst2.kept).c (fun ad e => (hblk ad e).imp id fun h => by have := hst2.kept.size; omega)
      refine wp_range2 (gf := 77) rfl (enters_of Tryz.func77 (by kernel_rfl) rfl) hit (fun _ => rfl) (fun k h => h.elim) (fun k ⟨hne, ad, e, e2⟩ => by rw [← e2]; have := (hblk ad e).resolve_left hne; have := hst2.kept.size; omega)
        (fun pre W => ∃ v qs, PutSt w O W v qs ∧ PutSt.No W2.heap.size v qs ∧ qs.map PV.core = putC (ps.map PV.core) (pre.map PV.core) ∧ qs.length ≤ k + pre.length)
        (fun c pre W => False)
        (fun pre A C h hk => by obtain ⟨v, qs, h1, h2, h3, h4⟩ := h; exact ⟨v, qs, h1.carry h2 HO.out hOlt hk, h2, h3, h4⟩)
        (fun c pre A C h hk => h.elim)
        ⟨v, qs, hst2, fun k hk => ⟨fun e => by have := own_lt' hst2.row k e; omega, fun q hq e => by have := own_lt' (hst2.own q hq) k e; omega⟩, by rw [Hcc.out]; rfl, by have := congrArg List.length Hcc.out; simp only [List.length_map] at this; rw [this, Hn.out]; simp⟩
        (fun x W => { tmps := #[.slice A k c, .slice B m d, undef, undef, .slice none 0 0, .pointer (some ⟨O, 0, none⟩), undef, u7, .pointer (some ⟨W.heap.size, 0, none⟩), undef, undef, .slice A k c, .int .i64 k, .int .i64 k, .bool false, u15, u16, u17, u18, u19, u20, u21, u22, u23, u24, u25, .slice B m d, .func (.func 77) #[] #[.pointer (some ⟨wr.heap.size, 0, none⟩)], .agg #[.string x.key, .slice x.A x.b.length x.c, .bool x.gone], undef, undef, undef, undef, undef, undef, undef, undef, undef, undef, undef, undef, undef, undef, undef, undef, undef, undef, undef, undef, undef, undef, undef, undef, undef, undef, undef, undef, undef, undef, undef, undef, undef, undef, undef, undef, undef, undef], defers := [] })
        (fun x W => W.alloc (.cells #[.string x.key, .slice x.A x.b.length x.c, .bool x.gone] 53)) (fun x W => (Kept.refl _ W).alloc _) ?assign ?body ?done ?stop
      case assign =>
        intro l x W K hK
        unfold encP
        gi_wp2
        exact hK
      case body =>
        rintro l pre x post W1 W hxs ⟨v, qs, hst1, hno, hcq, hql⟩ hsz1 hkW hdef hloop
        have hmx : ms[pre.length]? = some x := by rw [hxs]; simp
        obtain ⟨-, -, -, okx⟩ := H2.out _ x hmx
        have hbx := Hb2.out x (List.mem_of_getElem? hmx)
        have hka : Kept (fun _ => False) W1 (W1.alloc (.cells #[.string x.key, .slice x.A x.b.length x.c, .bool x.gone] 53)) := (Kept.refl _ W1).alloc _
        obtain ⟨D, hD⟩ : ∃ D, D = W2.heap.size := ⟨_, rfl⟩
        rw [← hD] at hno hsz1 hkW hdef hloop hOlt ⊢
        obtain ⟨Db, hDb⟩ : ∃ Db, Db = W1.heap.size := ⟨_, rfl⟩
        have hst : PutSt w O W v qs := (hst1.stay hka).carry hno HO.out hOlt (hkW.mono fun _ _ h => .inr (.inr h))
        have hB : BoxP W Db x := by rw [hDb]; exact (boxP_new W1 x).kept hkW (by omega)
        have hszW : D + 2 ≤ W.heap.size := by have := hka.size; have := hkW.size; omega
        have hDb2 : D + 2 ≤ Db := by omega
        have hDbW : Db < W.heap.size := (Array.getElem?_eq_some_iff.1 (show W.heap[Db]? = _ from hB)).1
        obtain ⟨Av, cv, hv, hA, hcv, hat⟩ := hst.at_
        obtain ⟨i, hi⟩ : ∃ i, i = atP qs (kb x.key) := ⟨_, rfl⟩
        obtain ⟨is, his⟩ : ∃ is, is = isP qs x.key := ⟨_, rfl⟩
        obtain ⟨lq, hlq⟩ : ∃ lq, lq = qs.length := ⟨_, rfl⟩
        have hpre : pre.length ≤ m := by have := congrArg List.length hxs; rw [List.length_append] at this; have := Hm.out; omega
        have hlq9 : lq ≤ 400000 := by omega
        rw [← hlq] at hv hcv
        have HP := Lib.hid (place_any x.key W Av lq cv qs hlq (by omega) hat)
        rw [← hi, ← his] at HP
        have x0 := hB.c0
        have x2 := hB.c2
        have bo := hst.box.cell
        have fo := hst.box.frozen
        have HSt := Lib.hid hst
        have HB := Lib.hid hB
        have HOkx := Lib.hid (okx.kept hst.kept)
        have HnoV : Hid (v.ownBlock ≠ some Db) := Lib.hid fun e => by have := own_lt' hst1.row Db e; omega
        have HnoQ : Hid (∀ q ∈ qs, q.val.ownBlock ≠ some Db) := Lib.hid fun q hq e => by have := own_lt' (hst1.own q hq) Db e; omega
        have hODb : ¬ O = Db := by omega
        have hDbO : ¬ Db = O := by omega
        have HwDb : Hid (w.heap.size ≤ Db) := Lib.hid (by have := HO.out; omega)
        have HOW : Hid (O + 1 ≤ W.heap.size) := Lib.hid (by have := Boxed.lt hst.box; omega)
        rw [← hDb]
        obtain ⟨gn, hgn⟩ : ∃ gn, gn = x.gone := ⟨_, rfl⟩
        rw [← hgn] at x2
        have Hgn := Lib.hid hgn
        have Hi := Lib.hid hi
        have His := Lib.hid his
        have Hlq := Lib.hid hlq
        have Hv := Lib.hid hv
        have Hno := Lib.hid hno
        have Hcq := Lib.hid hcq
        have Hql := Lib.hid hql
        have Hdef := Lib.hid hdef
        have Hloop := Lib.hid hloop
        have HszW := Lib.hid hszW
        have Hxs := Lib.hid hxs
        have HDb2 := Lib.hid hDb2
        have HOlt := Lib.hid hOlt
        have Hrd : Hid (∀ k, (ms ≠ [] ∧ rdOf B k) → k < w.heap.size) := Lib.hid fun k ⟨hne, ad, e, e2⟩ => by rw [← e2]; exact (hblk ad e).resolve_left hne
        subst hv
        clear hmx okx hka hkW hst1 hst hB hDb hA hat hi his hlq hcq hql hdef hloop hszW hxs hno hgn hit hst2 hblk hW2 hk2 hD hsz1 hDb2 hOlt H H2 Hb Hb2 Hcc hs
        have hile : i ≤ lq := by rw [Hi.out, Hlq.out]; exact atP_le' _ _
        obtain ⟨j, hj⟩ : ∃ j, j = i + 1 := ⟨_, rfl⟩
        have hj1 : (i : Int) + 1 = (j : Int) := by omega
        have Hj := Lib.hid hj
        clear hj
        cases is
        · cases gn
          · gi_wp2_with (first
              | (refine ⟨trivial, ?_⟩; gi_at_call 55; refine (CallsIn.inRound l (callsIn_wide.2 HP.out)).mono ?_; rintro e w3 ⟨rfl, hk3⟩; have HK3 := Lib.hid hk3; have HB3 := Lib.hid (HB.out.kept hk3 (by simp)); have y1 := HB3.out.c1; (try dsimp only [PV.val] at y1); clear hk3)
              | (refine ⟨trivial, ?_⟩; gi_at_call 30; refine (CallsIn.inRound l (callsIn_wide.2 (clone_any w3 x.A x.b.length x.c x.b rfl hbx (HOkx.out.kept HK3.out).1 HOkx.out.2))).mono ?_; rintro e w4 hP; obtain ⟨A4, c4, rfl, ha, -, -⟩ := ClonePost.acc hP; have hk34 := HK3.out.trans' ha.2; have HV4 := Lib.hid (own_low ha.1 (show O + 1 ≤ w3.heap.size from Nat.le_trans HOW.out HK3.out.size)); have HV4g := Lib.hid (own_ge (own_low ha.1 HK3.out.size)); have HB4 := Lib.hid (HB.out.kept hk34 (by simp)); have HSt4 := Lib.hid (HSt.out.stay hk34); have HK4 := Lib.hid hk34; have e0 := HB4.out.c0; have e1 := HB4.out.c1; have e2 := HB4.out.c2; have f1 := HB4.out.fz 1; have bo4 := HSt4.out.box.cell; have fo4 := HSt4.out.box.frozen; rw [← Hgn.out] at e2; (try dsimp only [PV.val] at e1); clear hP ha hk34)
              | (refine ⟨trivial, ?_⟩; gi_at_call 57; have hk5 : Kept (fun k => k = Db) w4 (w4.setCell ⟨Db, 1, none⟩ (.slice A4 x.b.length c4)) := (Kept.refl (fun k => k = Db) w4).setCell (fun _ => rfl) _; have hst5 := HSt4.out.off hk5 hODb HwDb.out HnoV.out HnoQ.out; have hst6 := hst5.stay ((Kept.refl (fun _ => False) _).alloc (.cells #[.string x.key, .slice A4 x.b.length c4, .bool false] 53)); have hNew : NewP ((w4.setCell ⟨Db, 1, none⟩ (.slice A4 x.b.length c4)).alloc (.cells #[.string x.key, .slice A4 x.b.length c4, .bool false] 53)) w4.heap.size ⟨x.key, x.b, false, A4, c4⟩ := (by have h9 := heap_alloc_new (w4.setCell ⟨Db, 1, none⟩ (.slice A4 x.b.length c4)) (.cells #[.string x.key, .slice A4 x.b.length c4, .bool false] 53); rw [set_size] at h9; exact h9); refine (CallsIn.inRound l (callsIn_wide.2 (ins_step (p := ⟨x.key, x.b, false, A4, c4⟩) hst6 Hlq.out hile (by omega) hNew (fun e => by have := own_lt' hst5.row _ e; rw [set_size] at this; omega) (Nat.le_trans (Nat.le_trans HOW.out (Nat.le_trans HK4.out.size hk5.size)) ((Kept.refl (fun _ => False) _).alloc _).size)))).mono ?_; rintro e w7 ⟨A7, c7, rfl, hr7, hk7⟩; have HR7 := Lib.hid hr7; have HK7 := Lib.hid hk7; have HSt6 := Lib.hid hst6; have HKW := Lib.hid ((((HK4.out.mono fun _ _ h => h.elim).trans' hk5).alloc (.cells #[.string x.key, .slice A4 x.b.length c4, .bool false] 53)) : Kept (fun k => k = Db) W _); have HV6 := Lib.hid (own_kept (own_kept HV4.out hk5 fun k e e3 => (by subst e3; exact HB4.out.no HV4.out e)) ((Kept.refl (fun _ => False) _).alloc (.cells #[.string x.key, .slice A4 x.b.length c4, .bool false] 53)) (by simp)); have bo7 := (hst6.boxGrown hk7).cell; have fo7 := (hst6.boxGrown hk7).frozen; clear hk5 hst5 hst6 hNew hr7 hk7))
            have hpr := put_round (rd := fun k => ms ≠ [] ∧ rdOf B k) HO.out HOlt.out HDb2.out HszW.out Hdef.out Hloop.out Hrd.out HSt6.out Hno.out HKW.out HK7.out HR7.out (fun q hq => by rcases List.mem_append.1 hq with hq | hq; rcases List.mem_append.1 hq with hq | hq; exact HSt6.out.own q (mem_take q hq); rw [List.mem_singleton.1 hq]; exact HV6.out; exact HSt6.out.own q (mem_drop q hq)) (fun q hq k hk e => by rcases List.mem_append.1 hq with hq | hq; rcases List.mem_append.1 hq with hq | hq; exact Hno.out.mono q (mem_take q hq) k hk e; rw [List.mem_singleton.1 hq] at e; have := HV4g.out k e; have := HszW.out; omega; exact Hno.out.mono q (mem_drop q hq) k hk e)
            refine ⟨hpr.1, _, _, hpr.2.1, hpr.2.2, ?_, ?_⟩
            · have hnew : qs.take i ++ [⟨x.key, x.b, false, A4, c4⟩] ++ qs.drop i = new1 qs x ⟨x.key, x.b, false, A4, c4⟩ := by unfold new1; rw [← Hi.out, ← His.out, ← Hgn.out]; simp
              rw [hnew]; exact fin_core Hcq.out rfl
            · have hnew : qs.take i ++ [⟨x.key, x.b, false, A4, c4⟩] ++ qs.drop i = new1 qs x ⟨x.key, x.b, false, A4, c4⟩ := by unfold new1; rw [← Hi.out, ← His.out, ← Hgn.out]; simp
              rw [hnew, List.length_append, List.length_singleton]; have := new1_len qs x ⟨x.key, x.b, false, A4, c4⟩; have := Hql.out; omega
          · gi_wp2_with (first
              | (refine ⟨trivial, ?_⟩; gi_at_call 55; refine (CallsIn.inRound l (callsIn_wide.2 HP.out)).mono ?_; rintro e w3 ⟨rfl, hk3⟩; have HK3 := Lib.hid hk3; have HB3 := Lib.hid (HB.out.kept hk3 (by simp)); have y1 := HB3.out.c1; (try dsimp only [PV.val] at y1); clear hk3)
              | (refine ⟨trivial, ?_⟩; gi_at_call 30; refine (CallsIn.inRound l (callsIn_wide.2 (clone_any w3 x.A x.b.length x.c x.b rfl hbx (HOkx.out.kept HK3.out).1 HOkx.out.2))).mono ?_; rintro e w4 hP; obtain ⟨A4, c4, rfl, ha, -, -⟩ := ClonePost.acc hP; have hk34 := HK3.out.trans' ha.2; have HV4 := Lib.hid (own_low ha.1 (show O + 1 ≤ w3.heap.size from Nat.le_trans HOW.out HK3.out.size)); have HV4g := Lib.hid (own_ge (own_low ha.1 HK3.out.size)); have HB4 := Lib.hid (HB.out.kept hk34 (by simp)); have HSt4 := Lib.hid (HSt.out.stay hk34); have HK4 := Lib.hid hk34; have e0 := HB4.out.c0; have e1 := HB4.out.c1; have e2 := HB4.out.c2; have f1 := HB4.out.fz 1; have bo4 := HSt4.out.box.cell; have fo4 := HSt4.out.box.frozen; rw [← Hgn.out] at e2; (try dsimp only [PV.val] at e1); clear hP ha hk34))
            have hk5 : Kept (fun k => k = Db) w4 (w4.setCell ⟨Db, 1, none⟩ (.slice A4 x.b.length c4)) := (Kept.refl (fun k => k = Db) w4).setCell (fun _ => rfl) _
            have hst5 := HSt4.out.off hk5 hODb HwDb.out HnoV.out HnoQ.out
            have hkW : Kept (fun k => k = Db) W (w4.setCell ⟨Db, 1, none⟩ (.slice A4 x.b.length c4)) := (HK4.out.mono fun _ _ h => h.elim).trans' hk5
            have hnew : qs = new1 qs x ⟨x.key, x.b, false, none, 0⟩ := by unfold new1; rw [← Hi.out, ← His.out, ← Hgn.out]; simp
            refine ⟨⟨hkW.size, fun k hk => ?_⟩, _, _, hst5, Hno.out, ?_, ?_⟩
            · have h1 := HszW.out
              have h2 := HDb2.out
              have h3 := HOlt.out
              have h4 := HO.out
              rcases hk with hk | hk | hk
              · have := Hrd.out k hk; exact hkW.block k (by omega) (by omega)
              · exact hkW.block k (by omega) (by omega)
              · exact hkW.block k (by omega) (by omega)
            · rw [hnew]; exact fin_core Hcq.out rfl
            · rw [List.length_append, List.length_singleton]; have := Hql.out; omega
        · have hilt : i < lq := by rw [Hi.out, Hlq.out]; exact isP_lt His.out.symm
          have hilt9 : (i : Int) < (lq : Int) := by omega
          obtain ⟨G, rfl⟩ : ∃ G, Av = some ⟨G, 0, none⟩ := by
            rcases HSt.out.row.2 with ⟨hv0, h0⟩ | ⟨g, cap, _, hv0, _⟩
            · have := Hlq.out; omega
            · simp only [Value.slice.injEq] at hv0; exact ⟨g, hv0.1⟩
          have hGDb : ¬ G = Db := fun e => HnoV.out (by rw [e]; rfl)
          have hDbG : ¬ Db = G := fun e => hGDb e.symm
          have hGO : ¬ G = O := fun e => by have := own_ge HSt.out.row G rfl; omega
          have hOG : ¬ O = G := fun e => hGO e.symm
          cases gn
          · gi_wp2_with (first
              | (refine ⟨trivial, ?_⟩; gi_at_call 55; refine (CallsIn.inRound l (callsIn_wide.2 HP.out)).mono ?_; rintro e w3 ⟨rfl, hk3⟩; have HK3 := Lib.hid hk3; have HB3 := Lib.hid (HB.out.kept hk3 (by simp)); have y1 := HB3.out.c1; (try dsimp only [PV.val] at y1); clear hk3)
              | (refine ⟨trivial, ?_⟩; gi_at_call 30; refine (CallsIn.inRound l (callsIn_wide.2 (clone_any w3 x.A x.b.length x.c x.b rfl hbx (HOkx.out.kept HK3.out).1 HOkx.out.2))).mono ?_; rintro e w4 hP; obtain ⟨A4, c4, rfl, ha, -, -⟩ := ClonePost.acc hP; have hk34 := HK3.out.trans' ha.2; have HV4 := Lib.hid (own_low ha.1 (show O + 1 ≤ w3.heap.size from Nat.le_trans HOW.out HK3.out.size)); have HV4g := Lib.hid (own_ge (own_low ha.1 HK3.out.size)); have HB4 := Lib.hid (HB.out.kept hk34 (by simp)); have HSt4 := Lib.hid (HSt.out.stay hk34); have HK4 := Lib.hid hk34; have e0 := HB4.out.c0; have e1 := HB4.out.c1; have e2 := HB4.out.c2; have f1 := HB4.out.fz 1; have bo4 := HSt4.out.box.cell; have fo4 := HSt4.out.box.frozen; rw [← Hgn.out] at e2; (try dsimp only [PV.val] at e1); obtain ⟨⟨u0, g0⟩, ⟨u1, g1⟩, ⟨u2, g2⟩, gf0, gf1, gf2⟩ := row_cells (i := i) HSt4.out.row (by have := Hlq.out; omega); clear hP ha hk34))
            have hk5 : Kept (fun k => k = Db) w4 (w4.setCell ⟨Db, 1, none⟩ (.slice A4 x.b.length c4)) := (Kept.refl (fun k => k = Db) w4).setCell (fun _ => rfl) _
            have hst5 := HSt4.out.off hk5 hODb HwDb.out HnoV.out HnoQ.out
            have hkW : Kept (fun k => k = Db) W (w4.setCell ⟨Db, 1, none⟩ (.slice A4 x.b.length c4)) := (HK4.out.mono fun _ _ h => h.elim).trans' hk5
            have hV5 := own_kept HV4.out hk5 fun k e e3 => (by subst e3; exact HB4.out.no HV4.out e)
            have hpr := put_set (q := ⟨x.key, x.b, false, A4, c4⟩) (rd := fun k => ms ≠ [] ∧ rdOf B k) HO.out HOlt.out HDb2.out HszW.out Hrd.out hst5 Hlq.out hilt Hno.out hkW hV5 (fun k hk e => by have := HV4g.out k e; have := HszW.out; omega)
            refine ⟨hpr.1, _, _, hpr.2.1, hpr.2.2, ?_, ?_⟩
            · have hnew : qs.take i ++ [⟨x.key, x.b, false, A4, c4⟩] ++ qs.drop (i + 1) = new1 qs x ⟨x.key, x.b, false, A4, c4⟩ := by unfold new1; rw [← Hi.out, ← His.out, ← Hgn.out]; simp
              rw [hnew]; exact fin_core Hcq.out rfl
            · have hnew : qs.take i ++ [⟨x.key, x.b, false, A4, c4⟩] ++ qs.drop (i + 1) = new1 qs x ⟨x.key, x.b, false, A4, c4⟩ := by unfold new1; rw [← Hi.out, ← His.out, ← Hgn.out]; simp
              rw [hnew, List.length_append, List.length_singleton]; have := new1_len qs x ⟨x.key, x.b, false, A4, c4⟩; have := Hql.out; omega
          · gi_wp2_with (first
              | (refine ⟨trivial, ?_⟩; gi_at_call 55; refine (CallsIn.inRound l (callsIn_wide.2 HP.out)).mono ?_; rintro e w3 ⟨rfl, hk3⟩; have HK3 := Lib.hid hk3; have HB3 := Lib.hid (HB.out.kept hk3 (by simp)); have y1 := HB3.out.c1; (try dsimp only [PV.val] at y1); clear hk3)
              | (refine ⟨trivial, ?_⟩; gi_at_call 30; refine (CallsIn.inRound l (callsIn_wide.2 (clone_any w3 x.A x.b.length x.c x.b rfl hbx (HOkx.out.kept HK3.out).1 HOkx.out.2))).mono ?_; rintro e w4 hP; obtain ⟨A4, c4, rfl, ha, -, -⟩ := ClonePost.acc hP; have hk34 := HK3.out.trans' ha.2; have HV4 := Lib.hid (own_low ha.1 (show O + 1 ≤ w3.heap.size from Nat.le_trans HOW.out HK3.out.size)); have HV4g := Lib.hid (own_ge (own_low ha.1 HK3.out.size)); have HB4 := Lib.hid (HB.out.kept hk34 (by simp)); have HSt4 := Lib.hid (HSt.out.stay hk34); have HK4 := Lib.hid hk34; have e0 := HB4.out.c0; have e1 := HB4.out.c1; have e2 := HB4.out.c2; have f1 := HB4.out.fz 1; have bo4 := HSt4.out.box.cell; have fo4 := HSt4.out.box.frozen; rw [← Hgn.out] at e2; (try dsimp only [PV.val] at e1); clear hP ha hk34)
              | (refine ⟨trivial, ?_⟩; gi_at_call 56; have hk5 : Kept (fun k => k = Db) w4 (w4.setCell ⟨Db, 1, none⟩ (.slice A4 x.b.length c4)) := (Kept.refl (fun k => k = Db) w4).setCell (fun _ => rfl) _; have hst5 := HSt4.out.off hk5 hODb HwDb.out HnoV.out HnoQ.out; refine (CallsIn.inRound l (callsIn_wide.2 (del_step (j := j) hst5 Hlq.out hilt Hj.out (by omega)))).mono ?_; rintro e w7 ⟨rfl, hr7, hk7⟩; have HR7 := Lib.hid hr7; have HK7 := Lib.hid hk7; have HSt6 := Lib.hid hst5; have HKW := Lib.hid (((HK4.out.mono fun _ _ h => h.elim).trans' hk5) : Kept (fun k => k = Db) W _); have bo7 := (hst5.boxGrown hk7).cell; have fo7 := (hst5.boxGrown hk7).frozen; clear hk5 hst5 hr7 hk7))
            have hpr := put_round (rd := fun k => ms ≠ [] ∧ rdOf B k) HO.out HOlt.out HDb2.out HszW.out Hdef.out Hloop.out Hrd.out HSt6.out Hno.out HKW.out HK7.out HR7.out (fun q hq => by rcases List.mem_append.1 hq with hq | hq; exact HSt6.out.own q (mem_take q hq); exact HSt6.out.own q (mem_drop q hq)) (fun q hq k hk e => by rcases List.mem_append.1 hq with hq | hq; exact Hno.out.mono q (mem_take q hq) k hk e; exact Hno.out.mono q (mem_drop q hq) k hk e)
            refine ⟨hpr.1, _, _, hpr.2.1, hpr.2.2, ?_, ?_⟩
            · have hnew : qs.take i ++ qs.drop (i + 1) = new1 qs x ⟨x.key, x.b, false, none, 0⟩ := by unfold new1; rw [← Hi.out, ← His.out, ← Hgn.out]; simp
              rw [hnew]; exact fin_core Hcq.out rfl
            · have hnew : qs.take i ++ qs.drop (i + 1) = new1 qs x ⟨x.key, x.b, false, none, 0⟩ := by unfold new1; rw [← Hi.out, ← His.out, ← Hgn.out]; simp
              rw [hnew, List.length_append, List.length_singleton]; have := new1_len qs x ⟨x.key, x.b, false, none, 0⟩; have := Hql.out; omega
      case done =>
        rintro W ⟨v, qs', h1, hno, h3, -⟩ hD
        have bo := h1.box.cell
        have HS := Lib.hid h1
        have H3 := Lib.hid h3
        have HD := Lib.hid hD
        have HNo := Lib.hid hno
        have HOlt := Lib.hid hOlt
        clear h1 h3 hD hit hno
        go_wp2
        refine leave_mark HD.out (v := v) (show _ = Result.ok v _ from results_tmp (t := 4) rfl _ _ _) ⟨v, qs', rfl, ?_, H3.out⟩
        exact (HS.out.carry HNo.out HO.out HOlt.out ((putObj_kept W W2.heap.size (.deferred none)).mono fun _ _ h => .inr (.inl h))).ownP HO.out
      case stop =>
        intro c pre W _ h
        exact h.elim
end Go.Proofs.YtcifhfdjigfeiaaGreatDoor
end
