import Derived.Test.YtcifhfdjigfeiaaGreatDoorZg
import Derived.Test.YtcifhfdjigfeiaaGreatDoorZb
/-! slices.All over bytes that a round writes; a range over it. -/
section
set_option linter.unusedVariables false
set_option linter.unusedSimpArgs false
namespace Go.Proofs.YtcifhfdjigfeiaaGreatDoor
open Go.RowKit Go.Sort
attribute [local go_sem] Oper.semAt_some

/-- The iterator gf (with what it has captured, lb) tells xs, in order, or a part, a round having said 'no more'. It writes blocks of 'own' alone (and new ones); it asks of a round that goes on that the blocks of 'rd' stay. -/
def IterC {α : Type} (P : Program) (gf : Nat) (lb : Array Value) (encs : α → Array Value) (own rd : Nat → Prop) (C : List α → World → Prop) (xs : List α) (w : World) : Prop :=
  ∀ (l : Nat) (J Jx : List α → World → Prop) (W : World), Kept (fun _ => False) w W →
    (∀ pre A B, J pre A → Kept own A B → J pre B) → (∀ pre A B, Jx pre A → Kept own A B → Jx pre B) →
    (∀ pre W, J pre W → C pre W) →
    (∀ pre x post W1, xs = pre ++ x :: post → J pre W1 → YieldAt Fence.wide 7 P l (encs x) W1 fun e W' =>
      (e = .returned (.bool true) ∧ J (pre ++ [x]) W' ∧ W1.heap.size ≤ W'.heap.size ∧ ∀ k, rd k → W'.heap[k]? = W1.heap[k]?) ∨ (e = .returned (.bool false) ∧ Jx (pre ++ [x]) W')) →
    J [] W →
    CallsIn Fence.wide 8 P gf (#[.func (.yield l) #[] #[]] ++ lb) W fun e W' => (∃ v, e = .returned v) ∧ (J xs W' ∨ ∃ pre, pre <+: xs ∧ Jx pre W')

/-- The law. D: the block of the rounds' deferred calls; D + 1: the loop's record. -/
theorem wp_rangeC {α : Type} {P : Program} {g : Operand} {ps : Array Tmp} {assign body : Code} {Q : Exit → Act → World → Prop} {a : Act} {w : World}
    {gf : Nat} {lb : Array Value} (hg : a.eval g = .func (.func gf) #[] lb) (eg : ∀ args w, (callFunc gf args).run P w = .ok (.enter gf args) w)
    {encs : α → Array Value} {own rd : Nat → Prop} {C : List α → World → Prop} {xs : List α} (hit : IterC P gf lb encs own rd C xs w) (hps : ∀ x, (encs x).size = ps.size)
    (ho : ∀ k, own k → k < w.heap.size) (hr : ∀ k, rd k → k < w.heap.size)
    (I : List α → World → Prop) (Ix : Code → List α → World → Prop)
    (hC : ∀ pre W, I pre W → C pre W)
    (hI : ∀ pre A B, I pre A → Kept (fun k => own k ∨ k = w.heap.size ∨ k = w.heap.size + 1) A B → I pre B)
    (hIx : ∀ c pre A B, Ix c pre A → Kept (fun k => own k ∨ k = w.heap.size ∨ k = w.heap.size + 1) A B → Ix c pre B)
    (h0 : I [] w) (a₁ : α → Act)
    (hassign : ∀ (l : Nat) (x : α) (W : World) (K : Act → World → Prop), K (a₁ x) W →
      assign.wpIn (Fence.wide.inRound l) 7 P (Exit.then K (fun _ _ _ => False)) { tmps := (ps.zip (encs x)).foldl (fun t (p, v) => t.setIfInBounds p v) a.tmps, defers := [] } W)
    (hbody : ∀ (l : Nat) (pre : List α) (x : α) (post : List α) (W : World), xs = pre ++ x :: post → I pre W → w.heap.size + 2 ≤ W.heap.size → body.wpIn (Fence.wide.inRound l) 7 P (roundPost w.heap.size rd I Ix (pre ++ [x]) W) (a₁ x) W)
    (hdone : ∀ (W : World), I xs W → W.heap[w.heap.size]? = some (.deferred (some [])) → Q .normal { a with defers := { target := .collected w.heap.size, args := #[] } :: a.defers } W)
    (hstop : ∀ (c : Code) (pre : List α) (W : World), pre <+: xs → Ix c pre W → W.heap[w.heap.size]? = some (.deferred (some [])) → c.wp P Q { a with defers := { target := .collected w.heap.size, args := #[] } :: a.defers } W) :
    (Code.rangeFunc g ps assign body).wp P Q a w := by
  refine (wpIn_wide (n := 9)).1 (wpIn_rangeFunc ?_)
  intro fn hfn
  obtain ⟨rec, hrec⟩ : ∃ rec : LoopState → Option Code → Loop, rec = fun st pe => { state := st, pending := pe, fn, tmps := a.tmps, params := ps, assign, body, defers := w.heap.size } := ⟨_, rfl⟩
  obtain ⟨W1, hW1⟩ : ∃ W1, (w.alloc (.deferred (some []))).alloc (.loop (rec .ready none)) = W1 := ⟨_, rfl⟩
  have hL1 : W1.heap[w.heap.size + 1]? = some (.loop (rec .ready none)) := by
    rw [← hW1]; have := World.alloc_heap_new (w.alloc (.deferred (some []))) (.loop (rec .ready none)); rwa [World.size_alloc] at this
  have hK1 : W1.heap[w.heap.size]? = some (.deferred (some [])) := by
    rw [← hW1]; exact (Below.heap_alloc _ _ _ (by simp)).trans (World.alloc_heap_new w _)
  have hk1 : Kept (fun _ => False) w W1 := by rw [← hW1]; exact ((Kept.refl _ w).alloc _).alloc _
  have hI1 : I [] W1 := hI _ _ _ h0 (hk1.mono fun _ _ h => h.elim)
  have no : ∀ k, own k → k ≠ w.heap.size ∧ k ≠ w.heap.size + 1 := fun k h => ⟨by have := ho k h; omega, by have := ho k h; omega⟩
  refine ⟨w.heap.size + 1, [{ target := .collected w.heap.size, args := #[] }], W1, { target := .fn (.func gf) lb, args := #[.func (.yield (w.heap.size + 1)) #[] #[]] }, W1, gf,
    #[.func (.yield (w.heap.size + 1)) #[] #[]] ++ lb, W1, ?_, ?_, fun _ _ => trivial, ?_, fun _ => by omega, ?_⟩
  · rw [← hW1, hrec]; exact run_enterLoop_outer _ _ _ _ _
  · simp only [resolve, hg]
    simp [go_sem]
  · simp [invoke, go_sem, eg]
  · refine (hit (w.heap.size + 1)
      (fun pre W => (I pre W ∧ W1.heap.size ≤ W.heap.size) ∧ W.heap[w.heap.size + 1]? = some (.loop (rec .ready none)) ∧ W.heap[w.heap.size]? = some (.deferred (some [])))
      (fun pre W => ∃ c, Ix c pre W ∧ W.heap[w.heap.size + 1]? = some (.loop (rec .done (some c))) ∧ W.heap[w.heap.size]? = some (.deferred (some [])))
      W1 hk1
      (fun pre A B hs hk => ⟨⟨hI _ _ _ hs.1.1 (hk.mono fun _ _ h => .inl h), Nat.le_trans hs.1.2 hk.size⟩, hk.heap hs.2.1 (fun h => (no _ h).2 rfl), hk.heap hs.2.2 (fun h => (no _ h).1 rfl)⟩)
      (fun pre A B hs hk => by
        obtain ⟨c, hc, hl, hd⟩ := hs
        exact ⟨c, hIx _ _ _ _ hc (hk.mono fun _ _ h => .inl h), hk.heap hl (fun h => (no _ h).2 rfl), hk.heap hd (fun h => (no _ h).1 rfl)⟩)
      (fun pre W h => hC _ _ h.1.1) ?_ ⟨⟨hI1, Nat.le_refl _⟩, hL1, hK1⟩).mono ?_
    · -- one round
      rintro pre x post W hxs ⟨⟨hi, hsz⟩, hl, hk⟩
      have hlt : w.heap.size + 1 < W.heap.size := (Array.getElem?_eq_some_iff.1 hl).1
      have hy := run_yield (P := P) (args := encs x) hl (by rw [hrec]; exact hps x)
      rw [hrec] at hy
      refine ⟨fn, _, assign, body, hy, roundIn_of_wpIn trivial (hassign _ x W _ ⟨_, run_beginRound hl (by rw [hrec]), ?_⟩)⟩
      obtain ⟨W2, hW2⟩ : ∃ W2, W2 = W.putObj (w.heap.size + 1) (.loop { rec .ready none with state := .busy }) := ⟨_, rfl⟩
      rw [← hW2]
      have kp2 : Kept (fun k => k = w.heap.size + 1) W W2 := by rw [hW2]; exact putObj_kept _ _ _
      have hl2 : W2.heap[w.heap.size + 1]? = some (.loop { rec .ready none with state := .busy }) := by rw [hW2]; exact World.putObj_heap_same hlt
      have hk2 : W2.heap[w.heap.size]? = some (.deferred (some [])) := kp2.heap hk (by omega)
      have hs2 : W2.heap.size = W.heap.size := by rw [hW2]; simp [World.putObj]
      refine wpIn_mono (hbody _ pre x post _ hxs (hI _ _ _ hi (kp2.mono fun _ _ h => .inr (.inr h))) (by omega)) ?_
      have fin : ∀ (jump : Option Code) (W3 : World), (∀ k, (k = w.heap.size ∨ k = w.heap.size + 1) → W3.heap[k]? = W2.heap[k]?) →
          (Instr.endRound (w.heap.size + 1) jump).run P W3 = .ok (.bool jump.isNone) (W3.putObj (w.heap.size + 1) (.loop (rec (if jump.isNone then .ready else .done) jump))) ∧
          (W3.putObj (w.heap.size + 1) (.loop (rec (if jump.isNone then .ready else .done) jump))).heap[w.heap.size + 1]? = some (.loop (rec (if jump.isNone then .ready else .done) jump)) ∧
          (W3.putObj (w.heap.size + 1) (.loop (rec (if jump.isNone then .ready else .done) jump))).heap[w.heap.size]? = some (.deferred (some [])) := fun jump W3 hk3 => by
        have hl3 := (hk3 (w.heap.size + 1) (.inr rfl)).trans hl2
        have := run_endRound (P := P) jump hl3
        rw [hrec] at this ⊢
        exact ⟨this, World.putObj_heap_same (Array.getElem?_eq_some_iff.1 hl3).1, (World.putObj_heap_other (by omega)).trans ((hk3 _ (.inl rfl)).trans hk2)⟩
      rintro e a3 W3 hp
      cases e with
      | normal =>
        obtain ⟨⟨hs3, hk3⟩, hi3⟩ := hp
        obtain ⟨hr', hl4, hk4⟩ := fin none W3 (fun k hk => hk3 k (.inr hk))
        refine ⟨_, _, hr', .inl ⟨rfl, ⟨⟨hI _ _ _ hi3 ((putObj_kept _ _ _).mono fun _ _ h => .inr (.inr h)), ?_⟩, hl4, hk4⟩, ?_, fun k hk => ?_⟩⟩
        · simp [World.putObj]; omega
        · simp [World.putObj]; omega
        · have := hr k hk
          rw [World.putObj_heap_other (by omega), hk3 k (.inl hk)]
          exact kp2.block k (by omega) (by omega)
      | ret =>
        obtain ⟨hr', hl4, hk4⟩ := fin (some .ret) W3 hp.1
        exact ⟨_, _, hr', .inr ⟨rfl, .ret, hIx _ _ _ _ hp.2 ((putObj_kept _ _ _).mono fun _ _ h => .inr (.inr h)), hl4, hk4⟩⟩
      | exit id =>
        obtain ⟨hr', hl4, hk4⟩ := fin (some (.exit id)) W3 hp.1
        exact ⟨_, _, hr', .inr ⟨rfl, .exit id, hIx _ _ _ _ hp.2 ((putObj_kept _ _ _).mono fun _ _ h => .inr (.inr h)), hl4, hk4⟩⟩
      | goto t =>
        obtain ⟨hr', hl4, hk4⟩ := fin (some (.goto t)) W3 hp.1
        exact ⟨_, _, hr', .inr ⟨rfl, .goto t, hIx _ _ _ _ hp.2 ((putObj_kept _ _ _).mono fun _ _ h => .inr (.inr h)), hl4, hk4⟩⟩
      | panic ch => exact hp.elim
      | outgrown => exact hp.elim
    · -- behind the iterator
      rintro e W2 ⟨⟨v, rfl⟩, (⟨⟨hi, _⟩, hl, hk⟩ | ⟨pre, hpre, c, hi, hl, hk⟩)⟩
      · exact ⟨none, _, by have := run_endLoop (P := P) hl (by rw [hrec]; simp); rw [hrec] at this; exact this, hdone _ (hI _ _ _ hi ((putObj_kept _ _ _).mono fun _ _ h => .inr (.inr h))) ((World.putObj_heap_other (by omega)).trans hk)⟩
      · exact ⟨some c, _, by have := run_endLoop (P := P) hl (by rw [hrec]; simp); rw [hrec] at this; exact this, wpIn_wide.2 (hstop c pre _ hpre (hIx _ _ _ _ hi ((putObj_kept _ _ _).mono fun _ _ h => .inr (.inr h))) ((World.putObj_heap_other (by omega)).trans hk))⟩

set_option maxRecDepth 100000 in
set_option maxHeartbeats 1000000 in
theorem allB_iter (B Bb n : Nat) (w : World) (hb : Boxed w B 51 (.slice (some ⟨Bb, 0, none⟩) n n)) (hl : n ≤ 1000000) :
    IterC Tryz.prog 101 #[.pointer (some ⟨B, 0, none⟩)] (fun i : Nat => #[.int .i64 (i : Nat), .int .u8 0]) (fun _ => False) (fun _ => False) (fun pre W => pre.length < n → W.cell? ⟨Bb, pre.length, none⟩ = some (.int .u8 0)) (List.range n) w := by
  intro l J Jx W hW hJ hJx hC hY h0
  refine callsIn_of_wp Tryz.func101 rfl trivial ?_ rfl
  have hb' : Boxed W B 51 (.slice (some ⟨Bb, 0, none⟩) n n) := hW.heap hb (by simp)
  have hcp := hb'.cell
  have HC := Lib.hid hC
  have HY := Lib.hid hY
  have H0 := Lib.hid h0
  clear hb hb' hY h0 hC
  simp only [Tryz.ntmps101, List.size_toArray, List.length_cons, List.length_nil, Nat.reduceAdd, Nat.reduceSub, Array.replicate_succ, Array.replicate_zero, List.push_toArray, List.append_toArray, List.nil_append, List.cons_append]
  gi_wp2
  gi_loopw [3, 4, 7] (fun _ _ i wr => ∃ j : Nat, i = .int .i64 j ∧ j ≤ n ∧ Hid (J (List.range j) wr)) (fun _ _ i _ => n - iNat i)
  case atStart => exact ⟨0, rfl, by omega, Lib.hid (by simpa using H0.out)⟩
  case round =>
    obtain ⟨j, rfl, hj, hJ1⟩ := hrel
    by_cases hlt : j < n
    · have hlt' : (j : Int) < (n : Int) := by omega
      have hd : List.range n = List.range j ++ j :: (List.range n).drop (j + 1) := by
        have h1 := List.take_append_drop j (List.range n)
        rw [List.take_range, Nat.min_eq_left (by omega), List.drop_eq_getElem_cons (by simpa using hlt)] at h1
        simpa using h1.symm
      have hc := HC.out _ _ hJ1.out (by simpa using hlt)
      rw [List.length_range] at hc
      obtain ⟨fn, tmps, assign, body, hy, hR⟩ := HY.out (List.range j) j ((List.range n).drop (j + 1)) wr hd hJ1.out
      have HR := Lib.hid hR
      have Hd := Lib.hid hd
      clear hR hd
      gi_wp2
      refine HR.out.mono ?_
      rintro e W3 (⟨rfl, hJ3, _, hk3⟩ | ⟨rfl, hJx3⟩)
      · have HJ3 := Lib.hid hJ3
        clear hJ3 hk3
        gi_wp2
        go_roundw
        case rel =>
          refine ⟨j + 1, congrArg (Value.int .i64) (by omega), by omega, Lib.hid ?_⟩
          rw [List.range_succ]
          exact HJ3.out
        case measure => simp only [iNat]; omega
      · gi_wp2
        refine bodyPost_ret (results_none rfl _ _ _) rfl ?_
        refine ⟨⟨_, rfl⟩, .inr ⟨_, ?_, hJx3⟩⟩
        refine ⟨(List.range n).drop (j + 1), ?_⟩
        rw [List.append_assoc, List.singleton_append]
        exact Hd.out.symm
    · have hlt' : ¬ (j : Int) < (n : Int) := by omega
      obtain rfl : j = n := by omega
      gi_wp2
      refine bodyPost_end (results_none rfl _ _ _) rfl ?_
      exact ⟨⟨_, rfl⟩, .inl hJ1.out⟩
theorem allB_of (A : Option Addr) (n c : Nat) (w : World) : Calls Tryz.prog 85 #[.slice A n c] w fun e w' => e = .returned (.func (.func 101) #[] #[.pointer (some ⟨w.heap.size, 0, none⟩)]) ∧ w' = w.alloc (.cells #[.slice A n c] 51) := by
  go_enter Tryz.func85, Tryz.ntmps85
  go_wp2
  go_ret
  exact ⟨rfl, rfl⟩
end Go.Proofs.YtcifhfdjigfeiaaGreatDoor
end

/-! frame.number. -/
section
set_option linter.unusedVariables false
set_option linter.unusedSimpArgs false
namespace Go.Proofs.YtcifhfdjigfeiaaGreatDoor
open Go.RowKit Go.Sort
attribute [local go_sem] Oper.semAt_some

theorem make_bytes (W : World) (N : Nat) (hN : N < 800) : (Instr.makeSlice 51 (.int .i64 (N : Int)) (.int .i64 (N : Int))).run Tryz.prog W = .ok (.slice (some ⟨W.heap.size, 0, none⟩) N N) (W.alloc (.cells (List.replicate N (Value.int .u8 0)).toArray 5)) := by
  obtain ⟨i0, hi, hz0, hz1, hz2⟩ := info_parts infoU8
  have := run_makeSlice (P := Tryz.prog) W 51 5 i0 (.int .u8 0) Tryz.underlying51 hi hz0 .i64 .i64 (N : Int) (N : Int) (by omega) (Int.le_refl _) (by rw [hz1]; simp; omega) (by rw [hz2]; omega) (by omega)
  rw [this]
  have e : madeCells (Value.int .u8 0).cells ((N : Int).toNat * i0.size) = (List.replicate N (Value.int .u8 0)).toArray := by
    apply Array.ext'
    rw [hz1, show (Value.int .u8 0).cells = #[.int .u8 0] from rfl, toList_madeCells_one]
    simp
  rw [e]
  simp
/-- A number in so many bytes, the highest first. -/
def numAt (k v i : Nat) : UInt8 := UInt8.ofNat (v / 2 ^ (8 * (k - 1 - i)) % 256)
def numN (k v : Nat) : List UInt8 := (List.range k).map (numAt k v)
theorem numN_len (k v : Nat) : (numN k v).length = k := by simp [numN]
def rowN (k v i : Nat) : List Value := ((List.range i).map (numAt k v)).map bv ++ List.replicate (k - i) (.int .u8 0)
theorem rowN_len (k v i : Nat) (h : i ≤ k) : (rowN k v i).length = k := by simp [rowN]; omega
theorem rowN_at (k v i : Nat) (h : i < k) : (rowN k v i)[i]? = some (.int .u8 0) := by
  unfold rowN
  rw [List.getElem?_append_right (by simp), show i - (((List.range i).map (numAt k v)).map bv).length = 0 by simp, List.getElem?_replicate, if_pos (by omega)]
theorem rowN_set (k v i : Nat) (h : i < k) : (rowN k v i).set i (bv (numAt k v i)) = rowN k v (i + 1) := by
  unfold rowN
  rw [List.set_append_right _ _ (by simp), show k - i = (k - (i + 1)) + 1 by omega, List.replicate_succ]
  simp only [List.length_map, List.length_range, Nat.sub_self, List.set_cons_zero, List.range_succ, List.map_append, List.map_cons, List.map_nil, List.append_assoc, List.singleton_append]
set_option maxRecDepth 100000 in
set_option maxHeartbeats 4000000 in
theorem number_any (w : World) (v k : Nat) (hv : v < 18446744073709551616) (hk : 1 ≤ k ∧ k ≤ 8) : Calls Tryz.prog 64 #[.int .u64 (v : Nat), .int .i64 (k : Nat)] w (ClonePost w (numN k v)) := by
  have hmk := fun W => make_bytes W k (by omega)
  have hk8 : (k : Int) ≤ 8 := by omega
  refine calls_of_marks Tryz.func64 rfl ?_
  simp only [Tryz.ntmps64, List.size_toArray, List.length_cons, List.length_nil, Nat.reduceAdd, Nat.reduceSub, Array.replicate_succ, Array.replicate_zero, List.push_toArray, List.append_toArray, List.nil_append, List.cons_append]
  go_wp2_with (first
    | (go_at_call 85; refine (allB_of _ _ _ _).mono ?_; rintro e w' ⟨rfl, rfl⟩))
  obtain ⟨O, hO⟩ : ∃ O, O = w.heap.size := ⟨_, rfl⟩
  obtain ⟨W0, hW0⟩ : ∃ W0, W0 = (((((w.alloc (.cells #[.int .u64 (v : Nat)] 61)).alloc (.cells #[.int .i64 (k : Nat)] 3)).alloc (.cells (Array.replicate k (.int .u8 0)) 5)).alloc (.cells #[.slice (some ⟨w.heap.size + 1 + 1, 0, none⟩) k k] 51)).alloc (.cells #[.slice (some ⟨w.heap.size + 1 + 1, 0, none⟩) k k] 51)) := ⟨_, rfl⟩
  rw [← hW0]
  have hkW : Kept (fun _ => False) w W0 := by rw [hW0]; exact (((((Kept.refl _ w).alloc _).alloc _).alloc _).alloc _).alloc _
  have hsz : W0.heap.size = O + 5 := by rw [hW0, hO]; simp
  have hb0 : Boxed W0 O 61 (.int .u64 (v : Nat)) := by
    rw [hW0, hO]; exact ((((Boxed.new w 61 _).alloc _).alloc _).alloc _).alloc _
  have hb1 : Boxed W0 (O + 1) 3 (.int .i64 (k : Nat)) := by
    have := (((Boxed.new (w.alloc (.cells #[.int .u64 (v : Nat)] 61)) 3 (.int .i64 (k : Nat))).alloc (.cells (Array.replicate k (.int .u8 0)) 5)).alloc (.cells #[.slice (some ⟨w.heap.size + 1 + 1, 0, none⟩) k k] 51)).alloc (.cells #[.slice (some ⟨w.heap.size + 1 + 1, 0, none⟩) k k] 51)
    rw [hW0, hO]; simpa using this
  have hb2 : W0.heap[O + 1 + 1]? = some (.cells (rowN k v 0).toArray 5 (0, 0)) := by
    have h1 := heap_alloc_new ((w.alloc (.cells #[.int .u64 (v : Nat)] 61)).alloc (.cells #[.int .i64 (k : Nat)] 3)) (.cells (Array.replicate k (.int .u8 0)) 5)
    have hr : rowN k v 0 = List.replicate k (.int .u8 0) := by simp [rowN]
    rw [hW0, heap_alloc_old _ _ (by simp [hO]), heap_alloc_old _ _ (by simp [hO])]
    rw [hr, hO]
    simpa using h1
  have hb3 : Boxed W0 (O + 1 + 1 + 1) 51 (.slice (some ⟨O + 1 + 1, 0, none⟩) k k) := by
    have := (Boxed.new (((w.alloc (.cells #[.int .u64 (v : Nat)] 61)).alloc (.cells #[.int .i64 (k : Nat)] 3)).alloc (.cells (Array.replicate k (.int .u8 0)) 5)) 51 (.slice (some ⟨w.heap.size + 1 + 1, 0, none⟩) k k)).alloc (.cells #[.slice (some ⟨w.heap.size + 1 + 1, 0, none⟩) k k] 51)
    rw [hW0, hO]; simpa using this
  have hb4 : Boxed W0 (O + 1 + 1 + 1 + 1) 51 (.slice (some ⟨O + 1 + 1, 0, none⟩) k k) := by
    have := Boxed.new ((((w.alloc (.cells #[.int .u64 (v : Nat)] 61)).alloc (.cells #[.int .i64 (k : Nat)] 3)).alloc (.cells (Array.replicate k (.int .u8 0)) 5)).alloc (.cells #[.slice (some ⟨w.heap.size + 1 + 1, 0, none⟩) k k] 51)) 51 (.slice (some ⟨w.heap.size + 1 + 1, 0, none⟩) k k)
    rw [hW0, hO]; simpa using this
  clear hW0
  rw [← hO]
  have HO := Lib.hid hO
  have hOle : w.heap.size ≤ O := by omega
  have HOle := Lib.hid hOle
  clear hO
  have hit := allB_iter (O + 1 + 1 + 1 + 1) (O + 1 + 1) k W0 hb4 (by omega)
  refine wp_rangeC (gf := 101) rfl (enters_of Tryz.func101 (by kernel_rfl) rfl) hit (fun _ => rfl) (fun k h => h.elim) (fun k h => h.elim)
    (fun pre W => Boxed W O 61 (.int .u64 (v : Nat)) ∧ Boxed W (O + 1) 3 (.int .i64 (k : Nat)) ∧ W.heap[O + 1 + 1]? = some (.cells (rowN k v pre.length).toArray 5 (0, 0)) ∧ Boxed W (O + 1 + 1 + 1) 51 (.slice (some ⟨O + 1 + 1, 0, none⟩) k k) ∧ Kept (fun _ => False) w W)
    (fun c pre W => False)
    (fun pre W h hlt => by simp [World.cell?, h.2.2.1, rowN_at k v pre.length hlt])
    (fun pre A C h hk => ⟨hk.heap h.1 (fun e => by rcases e with e | e | e; exact e; omega; omega), hk.heap h.2.1 (fun e => by rcases e with e | e | e; exact e; omega; omega), hk.heap h.2.2.1 (fun e => by rcases e with e | e | e; exact e; omega; omega), hk.heap h.2.2.2.1 (fun e => by rcases e with e | e | e; exact e; omega; omega), h.2.2.2.2.trans hk fun i hi e => by rcases e with e | e | e; exact e; omega; omega⟩)
    (fun c pre A C h hk => h.elim)
    ⟨hb0, hb1, hb2, hb3, hkW⟩
    (fun x => { tmps := #[.int .u64 (v : Nat), .int .i64 (k : Nat), .pointer (some ⟨O, 0, none⟩), .pointer (some ⟨O + 1, 0, none⟩), .slice none 0 0, .pointer (some ⟨O + 1 + 1 + 1, 0, none⟩), .int .i64 (x : Nat), .int .i64 (k : Nat), .slice (some ⟨O + 1 + 1, 0, none⟩) k k, .slice (some ⟨O + 1 + 1, 0, none⟩) k k, .func (.func 101) #[] #[.pointer (some ⟨O + 1 + 1 + 1 + 1, 0, none⟩)], .int .i64 (x : Nat), .int .u8 0, undef, undef, undef, undef, undef, undef, undef, undef, undef, undef, undef, undef], defers := [] }) ?assign ?body ?done ?stop
  case assign =>
    intro l x W K hK
    gi_wp2
    exact hK
  case body =>
    rintro l pre x post W hxs ⟨h0, h1, h2, h3, hk⟩ hsz2
    have hx : x = pre.length ∧ x < k := by
      have h5 : (List.range k)[pre.length]? = some x := by rw [hxs]; simp
      rcases Nat.lt_or_ge pre.length k with h7 | h7
      · rw [List.getElem?_range h7] at h5
        injection h5 with h5
        exact ⟨h5.symm, by omega⟩
      · rw [List.getElem?_eq_none (by simpa using h7)] at h5; cases h5
    obtain ⟨hx1, hx2⟩ := hx
    rw [← hx1] at h2
    have a0 := h0.cell
    have a1 := h1.cell
    have a3 := h3.cell
    have a2 : W.cell? ⟨O + 1 + 1, x, none⟩ = some (.int .u8 0) := by simp [World.cell?, h2, rowN_at k v x hx2]
    have f2 : W.frozen? ⟨O + 1 + 1, x, none⟩ = false := by simp [World.frozen?, h2]
    have hx9 : (x : Int) < (k : Int) := by omega
    obtain ⟨k1, hk1⟩ : ∃ k1, k1 = k - 1 := ⟨_, rfl⟩
    obtain ⟨m, hm⟩ : ∃ m, m = k1 - x := ⟨_, rfl⟩
    obtain ⟨s, hs⟩ : ∃ s, s = 8 * m := ⟨_, rfl⟩
    obtain ⟨z, hz⟩ : ∃ z, z = v / 2 ^ s := ⟨_, rfl⟩
    obtain ⟨u, hu⟩ : ∃ u, u = (numAt k v x).toNat := ⟨_, rfl⟩
    have hw1 : IntKind.i64.wrap ((k : Int) - 1) = (k1 : Int) := by rw [IntKind.wrap_i64]; omega
    have hw2 : IntKind.i64.wrap ((k1 : Int) - (x : Int)) = (m : Int) := by rw [IntKind.wrap_i64]; omega
    have hw3 : IntKind.i64.wrap (8 * (m : Int)) = (s : Int) := by rw [IntKind.wrap_i64]; omega
    have hsh : Op.shift .shr .u64 (v : Int) .i64 (s : Int) = pure (.int .u64 (z : Nat)) := by
      rw [shift_shr_any _ _ _ _ (by omega)]
      have h9 : ((v : Int)) / 2 ^ min ((s : Int)).toNat 64 = ((v / 2 ^ s : Nat) : Int) := by
        rw [Int.toNat_natCast, Nat.min_eq_left (by omega)]
        norm_cast
      rw [show IntKind.u64.bits = 64 from rfl, h9, hz]
    have hzu : IntKind.u8.wrap (z : Int) = (u : Int) := by
      rw [IntKind.wrap_u8, hu, numAt, show k - 1 - x = m by omega, ← hs, ← hz]
      simp
    have Hu := Lib.hid (show bv (numAt k v x) = .int .u8 (u : Nat) by rw [hu]; rfl)
    clear hk1 hm hs hz hu
    have H0 := Lib.hid h0
    have H1 := Lib.hid h1
    have H2 := Lib.hid h2
    have H3 := Lib.hid h3
    have HK := Lib.hid hk
    have HX := Lib.hid hx1
    have HS2 := Lib.hid hsz2
    clear h0 h1 h2 h3 hk hxs hit hsz2 hx1 hb0 hb1 hb2 hb3 hb4 hkW hmk hOle
    gi_wp2
    refine wpIn_still_drew 11 (by kernel_rfl) (by kernel_rfl) (by kernel_rfl) (fun ⟨_, _, h⟩ => h) ?_
    simp only [List.take_succ_cons, List.take_zero, List.drop_succ_cons, List.drop_zero]
    repeat still_step
    refine wpStill_nil ?_
    go_wp2
    have hk9 : Kept (fun q => q = O + 1 + 1) W (W.setCell ⟨O + 1 + 1, x, none⟩ (.int .u8 (u : Nat))).drew := ((Kept.refl (fun q => q = O + 1 + 1) W).setCell (fun _ => rfl) _).drew
    have h2 := HS2.out
    have hle := HOle.out
    refine ⟨⟨hk9.size, fun q hq => hk9.block q (by rcases hq with hq | hq | hq; exact hq.elim; omega; omega) (by rcases hq with hq | hq | hq; exact hq.elim; omega; omega)⟩, hk9.heap H0.out (by omega), hk9.heap H1.out (by omega), ?_, hk9.heap H3.out (by omega), HK.out.trans hk9 fun i hi e => by omega⟩
    have hh : (W.setCell ⟨O + 1 + 1, x, none⟩ (.int .u8 (u : Nat))).heap[O + 1 + 1]? = some (.cells ((rowN k v x).toArray.setIfInBounds x (.int .u8 (u : Nat))) 5 (0, 0)) := by
      simp only [World.setCell, Array.getElem?_modify, if_true, H2.out]; rfl
    show (W.setCell ⟨O + 1 + 1, x, none⟩ (.int .u8 (u : Nat))).heap[O + 1 + 1]? = _
    rw [hh, List.setIfInBounds_toArray, ← Hu.out, rowN_set k v x hx2, List.length_append, List.length_singleton, ← HX.out]
  case done =>
    rintro W ⟨h0, h1, h2, h3, hk'⟩ hD
    have a3 := h3.cell
    have H2 := Lib.hid h2
    have HK := Lib.hid hk'
    have HD := Lib.hid hD
    clear h0 h1 h2 h3 hk' hD hit hb0 hb1 hb2 hb3 hb4 hkW
    go_wp2
    refine leave_mark HD.out (v := .slice (some ⟨O + 1 + 1, 0, none⟩) k k) (show _ = Result.ok _ _ from results_tmp (t := 4) rfl _ _ _) ⟨_, rfl, ?_, ?_⟩
    · have h9 : (W.putObj W0.heap.size (.deferred none)).heap[O + 1 + 1]? = some (.cells (rowN k v k).toArray 5 (0, 0)) := by
        have := (putObj_kept W W0.heap.size (.deferred none)).heap H2.out (by omega)
        rwa [List.length_range] at this
      have hle := HOle.out
      rw [numN_len]
      refine ⟨by simp [numN], .inr ⟨O + 1 + 1, k, (rowN k v k).toArray, rfl, by omega, h9, Nat.le_refl _, by unfold maxLen; omega, ?_, ?_⟩⟩
      · simp [rowN_len]
      · simp [rowN, numN]
        exact List.take_of_length_le (by simp)
    · have hle := HOle.out
      exact HK.out.trans (putObj_kept W W0.heap.size (.deferred none)) fun i hi e => by omega
  case stop =>
    intro c pre W _ h
    exact h.elim
end Go.Proofs.YtcifhfdjigfeiaaGreatDoor
end

/-! slices.Grow of nil bytes; slices.Concat of bytes. -/
section
set_option linter.unusedVariables false
set_option linter.unusedSimpArgs false
namespace Go.Proofs.YtcifhfdjigfeiaaGreatDoor
open Go.RowKit

set_option maxRecDepth 100000 in
set_option maxHeartbeats 4000000 in
theorem grow_any (w : World) (n : Nat) (hn : n ≤ 1000000) : Calls Tryz.prog 84 #[.slice none 0 0, .int .i64 (n : Nat)] w fun e w' => ∃ v, e = .returned v ∧ Acc w w' v [] := by
  have hn9 : (n : Int) ≤ 1000000 := by omega
  rcases Nat.eq_zero_or_pos n with h0 | h0
  · subst h0
    go_enter Tryz.func84, Tryz.ntmps84
    go_wp2
    go_ret
    exact ⟨_, rfl, Acc.nil w⟩
  · obtain ⟨i0, hi, hz0, hz1, hz2⟩ := info_parts infoU8
    have hap := fun ty => Lib.run_append_nil_zeros (P := Tryz.prog) w 51 3 ty 5 i0 (.int .u8 0) .i64 .i64 Tryz.underlying51 Tryz.underlying3 hi hz0 n h0 (by rw [hz1]; omega) (by omega) (by rw [hz2]; omega)
    have hge := grownCap_ge w n 0 5
    have hmx := grownCap_le_maxLen w n 0 5 (by unfold maxLen; omega)
    have hsz : (Builtin.zeroCells (Value.int .u8 0).cells n ++ Builtin.zeroCells (Value.int .u8 0).cells (grownCap w n 0 5 - n)).size = grownCap w n 0 5 := by
      rw [Array.size_append, size_zeroCells, size_zeroCells, show (Value.int IntKind.u8 0).cells.size = 1 from rfl]; omega
    obtain ⟨cap, hcap⟩ : ∃ cap, cap = grownCap w n 0 5 := ⟨_, rfl⟩
    rw [← hcap] at hge hmx hsz hap
    obtain ⟨arr, harr⟩ : ∃ arr, arr = Builtin.zeroCells (Value.int .u8 0).cells n ++ Builtin.zeroCells (Value.int .u8 0).cells (cap - n) := ⟨_, rfl⟩
    rw [← harr] at hsz hap
    have hpos : (0 : Int) < (n : Int) := by omega
    have hc9 : (cap : Int) ≤ 9223372036854775807 := by unfold maxLen at hmx; omega
    have HA : Hid (Acc w (w.drew.alloc (.cells arr 5)) (.slice (some ⟨w.heap.size, 0, none⟩) 0 cap) []) := Lib.hid ⟨⟨by simp, .inr ⟨w.heap.size, cap, arr, rfl, Nat.le_refl _, heap_alloc_new w.drew _, by simp, hmx, by omega, by simp⟩⟩, (Kept.refl _ w).drew.alloc _⟩
    have Hap := Lib.hid hap
    clear hap hmx hge hcap harr hsz
    go_enter Tryz.func84, Tryz.ntmps84
    go_wp2_with (at_builtin; refine Lib.wpList_append_run _ rfl _ _ 51 3 rfl _ _ rfl rfl _ _ (Hap.out _) ?_)
    go_ret
    exact ⟨_, rfl, HA.out⟩
/-- Slices of bytes. -/
structure BV where
  A : Option Addr
  c : Nat
  b : List UInt8
def BBs (w : World) (A : Option Addr) (ps : List BV) : Prop := ∀ (j : Nat) p, ps[j]? = some p → ∃ ad, A = some ad ∧ w.cell? (ad.add j) = some (.slice p.A p.b.length p.c) ∧ Bs w p.A p.b ∧ (p.A = none → p.c = 0)
theorem BBs.kept {w w' : World} {A : Option Addr} {ps : List BV} (h : BBs w A ps) (hk : Kept (fun _ => False) w w') : BBs w' A ps := fun j p hp => by
  obtain ⟨ad, h1, h2, h3, h4⟩ := h j p hp
  exact ⟨ad, h1, hk.cell h2 (by simp), h3.kept hk (by simp), h4⟩
def sumB (ps : List BV) : Nat := (ps.map fun p => p.b.length).sum
theorem sumB_snoc (ps : List BV) (k : Nat) (p : BV) (h : ps[k]? = some p) : sumB (ps.take (k + 1)) = sumB (ps.take k) + p.b.length := by
  unfold sumB; rw [List.take_add_one, h]; simp
theorem sumB_le (ps : List BV) (k : Nat) : sumB (ps.take k) ≤ sumB ps := by
  have : sumB ps = sumB (ps.take k) + sumB (ps.drop k) := by
    unfold sumB
    rw [← List.sum_append, ← List.map_append, List.take_append_drop]
  omega
theorem sumB_len (ps : List BV) : (ps.flatMap BV.b).length = sumB ps := by
  unfold sumB
  induction ps with
  | nil => rfl
  | cons p ps ih => simp [List.flatMap_cons, ih]
theorem flatB_snoc (ps : List BV) (k : Nat) (p : BV) (h : ps[k]? = some p) : (ps.take (k + 1)).flatMap BV.b = (ps.take k).flatMap BV.b ++ p.b := by
  rw [List.take_add_one, h, List.flatMap_append]; simp
set_option maxRecDepth 100000 in
set_option maxHeartbeats 4000000 in
theorem concat_any (w : World) (A : Option Addr) (n c : Nat) (ps : List BV) (hn : n = ps.length) (hn9 : n ≤ 1000) (hl : sumB ps ≤ 1000000) (h : BBs w A ps) :
    Calls Tryz.prog 63 #[.slice A n c] w (ClonePost w (ps.flatMap BV.b)) := by
  have H := Lib.hid h
  have Hn := Lib.hid hn
  have Hl := Lib.hid hl
  have hn8 : (n : Int) ≤ 1000 := by omega
  obtain ⟨S, hS⟩ : ∃ S, S = sumB ps := ⟨_, rfl⟩
  have HG := Lib.hid (grow_any w S (by omega))
  have HS := Lib.hid hS
  have hS9 : (S : Int) ≤ 1000000 := by omega
  clear h hn hl hS
  go_enter Tryz.func63, Tryz.ntmps63
  go_wp2_with fail
  go_loop [3, 5, 11] (fun m _ i => ∃ k u : Nat, k ≤ n ∧ i = .int .i64 k ∧ m = .int .i64 u ∧ Hid (u = sumB (ps.take k))) (fun _ _ i => n - (intOf i).toNat)
  case atStart => exact ⟨0, 0, by omega, rfl, rfl, Lib.hid (by simp [sumB])⟩
  case round =>
    obtain ⟨k, u, hk, rfl, rfl, hu⟩ := hrel
    by_cases hlt : k < n
    · have hk9 : (k : Int) < (n : Int) := by omega
      obtain ⟨p, hp⟩ : ∃ p, ps[k]? = some p := ⟨_, List.getElem?_eq_getElem (by have := Hn.out; omega)⟩
      obtain ⟨ad, rfl, hc, -, -⟩ := H.out k p hp
      have hs := sumB_snoc ps k p hp
      have hu9 : (u : Int) + (p.b.length : Int) ≤ 1000000 := by
        have h1 := hu.out
        have h2 := sumB_le ps (k + 1)
        have h3 := Hl.out
        omega
      have Hs := Lib.hid hs
      have hneg : ¬ (u : Int) + (p.b.length : Int) < 0 := by omega
      clear hp hs
      go_wp2
      go_round
      case rel => exact ⟨k + 1, u + p.b.length, by omega, by go_num, by go_num, Lib.hid (by rw [Hs.out, hu.out])⟩
      case measure => simp [intOf]; omega
    · obtain rfl : k = n := by omega
      have hE : u = S := by rw [hu.out, HS.out, Hn.out, List.take_length]
      subst hE
      go_wp2_with (go_at_call 84; refine HG.out.mono ?_; rintro e w1 ⟨v1, rfl, ha⟩; have HA1 := Lib.hid ha; clear ha)
      go_loopw [6, 8, 27] (fun l _ i wr => ∃ j : Nat, j ≤ k ∧ i = .int .i64 j ∧ Hid (Acc w wr l ((ps.take j).flatMap BV.b))) (fun _ _ i _ => k - (intOf i).toNat)
      case atStart => exact ⟨0, by omega, rfl, HA1⟩
      case round =>
        obtain ⟨j, hj, rfl, ho⟩ := hrel
        by_cases hlt2 : j < k
        · have hj9 : (j : Int) < (k : Int) := by omega
          obtain ⟨p, hp⟩ : ∃ p, ps[j]? = some p := ⟨_, List.getElem?_eq_getElem (by have := Hn.out; omega)⟩
          obtain ⟨ad, rfl, hc, hbs, hA⟩ := H.out j p hp
          have hc := ho.out.2.cell hc (by simp)
          have Hf := Lib.hid (flatB_snoc ps j p hp)
          have Hbs := Lib.hid (hbs.kept ho.out.2 (by simp))
          have HA := Lib.hid hA
          have Hb : Hid (((ps.take j).flatMap BV.b).length + p.b.length ≤ 1000000) := Lib.hid (by
            rw [sumB_len]
            have h1 := sumB_snoc ps j p hp
            have h2 := sumB_le ps (j + 1)
            have h3 := Hl.out
            omega)
          clear hp hbs hA
          go_wp2_with (at_builtin; refine wpList_append_acc rfl _ _ rfl _ _ rfl ho.out _ _ _ p.b rfl Hbs.out rfl HA.out (by have := Hb.out; omega) ?_; intro v2 w2 ha hg; have HA2 := Lib.hid ha; clear ha hg)
          go_roundw
          case rel => exact ⟨j + 1, by omega, by go_num, Lib.hid (by rw [Hf.out]; exact HA2.out)⟩
          case measure => simp [intOf]; omega
        · obtain rfl : j = k := by omega
          have HA2 := Lib.hid ho.out
          rw [Hn.out, List.take_length] at HA2
          go_wp2
          go_ret
          exact ⟨_, rfl, HA2.out.1, HA2.out.2⟩
end Go.Proofs.YtcifhfdjigfeiaaGreatDoor
end

/-! frame.Make. -/
section
set_option linter.unusedVariables false
set_option linter.unusedSimpArgs false
namespace Go.Proofs.YtcifhfdjigfeiaaGreatDoor
open Go.RowKit

def restB (off : Nat) (d : List UInt8) : List UInt8 := numN 8 off ++ d
def frameB (off : Nat) (d : List UInt8) : List UInt8 := numN 4 d.length ++ (numN 4 (crcN (restB off d)) ++ restB off d)
theorem restB_len (off : Nat) (d : List UInt8) : (restB off d).length = d.length + 8 := by simp [restB, numN_len]; omega
theorem frameB_len (off : Nat) (d : List UInt8) : (frameB off d).length = d.length + 16 := by simp [frameB, numN_len, restB_len]; omega
theorem bbs_new (W : World) (ps : List BV) (h : ∀ p ∈ ps, Bs W p.A p.b ∧ (p.A = none → p.c = 0)) : BBs (W.alloc (.cells (ps.map fun p => Value.slice p.A p.b.length p.c).toArray 51)) (some ⟨W.heap.size, 0, none⟩) ps := by
  intro j p hp
  have h1 := heap_alloc_new W (.cells (ps.map fun p => Value.slice p.A p.b.length p.c).toArray 51)
  have hk : Kept (fun _ => False) W (W.alloc (.cells (ps.map fun p => Value.slice p.A p.b.length p.c).toArray 51)) := (Kept.refl _ W).alloc _
  have h8 : (⟨W.heap.size, 0, none⟩ : Addr).add j = ⟨W.heap.size, j, none⟩ := by unfold Addr.add; split <;> simp_all
  have hq := h p (List.mem_of_getElem? hp)
  refine ⟨_, rfl, ?_, hq.1.kept hk (by simp), hq.2⟩
  rw [h8]
  unfold World.cell?
  dsimp only
  rw [h1]
  simp [hp]
set_option maxRecDepth 100000 in
set_option maxHeartbeats 4000000 in
theorem make_any (w : World) (off : Nat) (A : Option Addr) (n c : Nat) (xs : List UInt8) (ho : off < 18446744073709551616) (hn : n = xs.length) (hl : n ≤ 32768) (h : Bs w A xs) (hA : A = none → c = 0) :
    Calls Tryz.prog 42 #[.int .u64 (off : Nat), .slice A n c] w fun e w' => ∃ v, e = .returned (.tuple #[v, .int .i64 0]) ∧ w'.ownsRow w.heap.size 5 1 v (frameB off xs).length ((frameB off xs).map bv) ∧ Kept (fun _ => False) w w' := by
  subst hn
  have H := Lib.hid h
  have HA := Lib.hid hA
  obtain ⟨n, hn⟩ : ∃ n, n = xs.length := ⟨_, rfl⟩
  rw [← hn] at hl ⊢
  have Hn := Lib.hid hn
  have hn9 : ¬ (32768 : Int) < (n : Int) := by omega
  have hn8 : (n : Int) ≤ 32768 := by omega
  have HN8 := Lib.hid (number_any w off 8 ho (by omega))
  have HN4 : Hid (∀ W, Calls Tryz.prog 64 #[.int .u64 (n : Nat), .int .i64 4] W (ClonePost W (numN 4 n))) := Lib.hid fun W => number_any W n 4 (by omega) (by omega)
  obtain ⟨cr, hcr⟩ : ∃ cr, cr = crcN (restB off xs) := ⟨_, rfl⟩
  have hcr9 : cr < 4294967296 := by rw [hcr]; exact crcN_lt _
  have HC4 : Hid (∀ W, Calls Tryz.prog 64 #[.int .u64 (cr : Nat), .int .i64 4] W (ClonePost W (numN 4 cr))) := Lib.hid fun W => number_any W cr 4 (by omega) (by omega)
  have Hcr := Lib.hid hcr
  obtain ⟨m, hm⟩ : ∃ m, m = (restB off xs).length := ⟨_, rfl⟩
  have Hm := Lib.hid hm
  have hm9 : m ≤ 40000 := by rw [hm, restB_len]; omega
  clear h hn hA hcr hm
  go_enter Tryz.func42, Tryz.ntmps42
  have HBB : Hid (∀ (W1 : World) (A1 : Option Addr) (c1 : Nat), Kept (fun _ => False) w W1 → Bs W1 A1 (numN 8 off) → (A1 = none → c1 = 0) → BBs (W1.alloc (.cells #[.slice A1 (numN 8 off).length c1, .slice A n c] 51)) (some ⟨W1.heap.size, 0, none⟩) [⟨A1, c1, numN 8 off⟩, ⟨A, c, xs⟩]) := Lib.hid (by
    intro W1 A1 c1 hk hb hc
    rw [Hn.out]
    exact bbs_new W1 [⟨A1, c1, numN 8 off⟩, ⟨A, c, xs⟩] (fun p hp => by
      simp only [List.mem_cons, List.not_mem_nil, or_false] at hp
      rcases hp with rfl | rfl
      · exact ⟨hb, hc⟩
      · exact ⟨H.out.kept hk (by simp), HA.out⟩))
  have HCon : Hid (∀ (W1 : World) (A1 : Option Addr) (c1 : Nat), Kept (fun _ => False) w W1 → Bs W1 A1 (numN 8 off) → (A1 = none → c1 = 0) → Calls Tryz.prog 63 #[.slice (some ⟨W1.heap.size, 0, none⟩) 2 2] (W1.alloc (.cells #[.slice A1 (numN 8 off).length c1, .slice A n c] 51)) (ClonePost (W1.alloc (.cells #[.slice A1 (numN 8 off).length c1, .slice A n c] 51)) (restB off xs))) := Lib.hid (by
    intro W1 A1 c1 hk hb hc
    have := concat_any _ _ 2 2 _ rfl (by omega) (by simp [sumB, numN_len]; have := Hn.out; omega) (HBB.out W1 A1 c1 hk hb hc)
    simpa [restB] using this)
  go_upto_region 4 with (first
    | (go_at_call 64; refine HN8.out.mono ?_; rintro e w1 hP; obtain ⟨A1, c1, rfl, ha, hb, hc⟩ := ClonePost.acc hP; have HK1 := Lib.hid ha.2; have HB1 := Lib.hid hb; have HC1 := Lib.hid hc; clear hP ha hb hc)
    | (go_at_call 63; refine (HCon.out w1 A1 c1 HK1.out HB1.out HC1.out).mono ?_; rintro e w2 hP; obtain ⟨A2, c2, rfl, ha, hb, hc⟩ := ClonePost.acc hP; rw [← Hm.out]; have HK2 := Lib.hid ((HK1.out.alloc _).trans' ha.2); have HB2 := Lib.hid hb; have HC2 := Lib.hid hc; clear hP ha hb hc))
  have HS : Hid (∀ W, Kept (fun _ => False) w2 W → Calls Tryz.prog 65 #[.slice A2 m c2] W fun e w' => e = .returned (.int .u32 (cr : Nat)) ∧ Kept (fun _ => False) W w') := Lib.hid fun W hk => by
    rw [Hcr.out]
    exact crcSum_any W A2 m c2 (restB off xs) Hm.out (by omega) (HB2.out.kept hk (by simp))
  have HCon2 : Hid (∀ (W1 : World) (A3 : Option Addr) (c3 : Nat) (A4 : Option Addr) (c4 : Nat), Kept (fun _ => False) w2 W1 → Bs W1 A3 (numN 4 n) → (A3 = none → c3 = 0) → Bs W1 A4 (numN 4 cr) → (A4 = none → c4 = 0) → Calls Tryz.prog 63 #[.slice (some ⟨W1.heap.size, 0, none⟩) 3 3] (W1.alloc (.cells #[.slice A3 (numN 4 n).length c3, .slice A4 (numN 4 cr).length c4, .slice A2 m c2] 51)) (ClonePost (W1.alloc (.cells #[.slice A3 (numN 4 n).length c3, .slice A4 (numN 4 cr).length c4, .slice A2 m c2] 51)) (frameB off xs))) := Lib.hid (by
    intro W1 A3 c3 A4 c4 hk hb3 hc3 hb4 hc4
    rw [Hm.out]
    have hbb := bbs_new W1 [⟨A3, c3, numN 4 n⟩, ⟨A4, c4, numN 4 cr⟩, ⟨A2, c2, restB off xs⟩] (fun p hp => by
      simp only [List.mem_cons, List.not_mem_nil, or_false] at hp
      rcases hp with rfl | rfl | rfl
      · exact ⟨hb3, hc3⟩
      · exact ⟨hb4, hc4⟩
      · exact ⟨HB2.out.kept hk (by simp), HC2.out⟩)
    have := concat_any _ _ 3 3 _ rfl (by omega) (by simp [sumB, numN_len, restB_len]; have := Hn.out; omega) hbb
    have e : [(⟨A3, c3, numN 4 n⟩ : BV), ⟨A4, c4, numN 4 cr⟩, ⟨A2, c2, restB off xs⟩].flatMap BV.b = frameB off xs := by
      simp [frameB, ← Hn.out, Hcr.out]
    rw [e] at this
    exact this)
  clear HCon HBB HN8
  go_wp2_with (first
    | (go_at_call 63; refine (HCon2.out w5 A3 c3 A4 c4 HK5.out HB3.out HC3.out HB4.out HC4'.out).mono ?_; rintro e w6 hP; obtain ⟨v6, rfl, ho6, hk6⟩ := hP; have HO6 := Lib.hid ho6; have HK6 := Lib.hid ((HK5.out.alloc _).trans' hk6); clear ho6 hk6)
    | (go_at_call 64; have hkk := HK4.out; (with_reducible refine (HC4.out _).mono ?_); rintro e w5 hP; obtain ⟨A4, c4, rfl, ha, hb, hc⟩ := ClonePost.acc hP; have HK5 := Lib.hid (HK4.out.trans' ha.2); have HB4 := Lib.hid hb; have HC4' := Lib.hid hc; have HB3 := Lib.hid (HB3'.out.kept (HK34.out.trans' ha.2) (by simp)); clear hP ha hb hc hkk)
    | (go_at_call 65; refine (HS.out w3 HK3.out).mono ?_; rintro e w4 ⟨rfl, hk4⟩; have HK34 := Lib.hid hk4; have HK4 := Lib.hid (HK3.out.trans' hk4); clear hk4)
    | (go_at_call 64; (with_reducible refine (HN4.out _).mono ?_); rintro e w3 hP; obtain ⟨A3, c3, rfl, ha, hb, hc⟩ := ClonePost.acc hP; have HK3 := Lib.hid ha.2; have HB3' := Lib.hid hb; have HC3 := Lib.hid hc; clear hP ha hb hc))
  go_ret2
  exact ⟨v6, rfl, own_low HO6.out (Nat.le_trans HK2.out.size (HK5.out.alloc _).size), HK2.out.trans' HK6.out⟩
end Go.Proofs.YtcifhfdjigfeiaaGreatDoor
end
