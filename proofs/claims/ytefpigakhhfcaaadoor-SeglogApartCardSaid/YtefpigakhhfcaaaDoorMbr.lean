import Derived.Test.YtefpigakhhfcaaaDoorMbq
/-! couranthelp.Seq2 over what From hands back. -/
section
set_option linter.unusedVariables false
set_option linter.unusedSimpArgs false
namespace Go.Proofs.YtefpigakhhfcaaaDoor
open Go.RowKit Go.Sort
attribute [local go_sem] Oper.semAt_some

abbrev RV2 := (List UInt8 × Nat) × Value
theorem elemU : ElemT 37 23 1 8 := ElemT.of Tryd.underlying37 infoU64 rfl (by decide) (by decide)
theorem IterF.later {α β : Type} {P : Program} {gf : Nat} {lb : Array Value} {encs : α → β → Array Value} {ok : α → β → World → Prop} {own rd : Nat → Prop} {xs : List α} {w w' : World} (h : IterF P gf lb encs ok own rd xs w) (hk : Kept (fun _ => False) w w') : IterF P gf lb encs ok own rd xs w' :=
  fun l J Jx S0 W hW => h l J Jx S0 W (hk.trans' hW)
theorem cs_one {W : World} {b : Nat} {T : TypeId} {v : Value} (h : W.heap[b]? = some (.cells #[v] T (0, 0))) : Cs W (some ⟨b, 0, none⟩) [v] := by
  refine ⟨fun e => by simp at e, fun ad e j u hu => ?_⟩
  injection e with e
  subst e
  exact World.news_of_block (cs := #[v]) h j u (by simpa using hu)
structure SqF (q b : Nat) (w W : World) (B D : Nat) (pre : List RV2) (S : Nat → Prop) : Prop where
  b0 : Boxed W B 3 (.int .i64 (q : Nat))
  b1 : Boxed W (B + 1) 37 (.slice none 0 0)
  b2 : Boxed W (B + 2) 22 (.slice none 0 0)
  b3 : Boxed W (B + 3) 4 (.bool false)
  ab : ∃ va vb, Boxed W (B + 4) 37 va ∧ W.ownsRow (D + 2) 23 1 va pre.length (pre.map fun x => uV x.1.2) ∧ Boxed W (B + 5) 22 vb ∧ W.ownsRow (D + 2) 31 1 vb pre.length (pre.map Prod.snd) ∧ S = fun k => k = B + 4 ∨ k = B + 5 ∨ va.ownBlock = some k ∨ vb.ownBlock = some k
  own : ∀ x ∈ pre, W.ownsRow b 5 1 x.2 x.1.1.length (x.1.1.map bv)
  no : ∀ x ∈ pre, ∀ k, x.2.ownBlock = some k → k ≠ D ∧ k ≠ D + 1
  kept : Kept (fun _ => False) w W
theorem SqF.carry {q b : Nat} {w W W' : World} {B D : Nat} {pre : List RV2} {S : Nat → Prop} (h : SqF q b w W B D pre S) (hk : Kept (fun k => False ∨ k = D ∨ k = D + 1) W W') (hB : B = w.heap.size) (hD : B + 6 ≤ D) : SqF q b w W' B D pre S := by
  have no : ∀ k, k < D → ¬ (False ∨ k = D ∨ k = D + 1) := by rintro k hk (h | h | h) <;> first | exact h.elim | omega
  have no2 : ∀ k, D + 2 ≤ k → ¬ (False ∨ k = D ∨ k = D + 1) := by rintro k hk (h | h | h) <;> first | exact h.elim | omega
  obtain ⟨va, vb, h1, h2, h3, h4, h5⟩ := h.ab
  exact ⟨hk.heap h.b0 (no _ (by omega)), hk.heap h.b1 (no _ (by omega)), hk.heap h.b2 (no _ (by omega)), hk.heap h.b3 (no _ (by omega)),
    ⟨va, vb, hk.heap h1 (no _ (by omega)), own_kept h2 hk fun k e => no2 k (own_ge h2 k e), hk.heap h3 (no _ (by omega)), own_kept h4 hk fun k e => no2 k (own_ge h4 k e), h5⟩,
    fun x hx => own_kept (h.own x hx) hk fun k e e2 => (by have h9 := h.no x hx k e; rcases e2 with e2 | e2 | e2; exact e2; exact h9.1 e2; exact h9.2 e2), h.no, h.kept.trans hk fun i hi hm => absurd hm (no i (by omega))⟩
theorem grew_blk {w w' : World} {v v' : Value} {n : Nat} (h : Grew w w' v v') (hn : n ≤ w.heap.size) : ∀ q, v'.ownBlock = some q → v.ownBlock = some q ∨ n ≤ q := fun q e => by
  rcases h with ⟨e1, -⟩ | ⟨e1, -⟩
  · exact .inl (e1 ▸ e)
  · rw [e1] at e; injection e with e; exact .inr (by omega)
theorem own_noLoop {W : World} {base e s n D : Nat} {u : Value} {xs : List Value} {r : Loop} (h : W.ownsRow base e s u n xs) (h1 : W.heap[D]? = some (.deferred (some []))) (h2 : W.heap[D + 1]? = some (.loop r)) : ∀ k, u.ownBlock = some k → k ≠ D ∧ k ≠ D + 1 := fun k e2 => by
  rcases h.2 with ⟨hv, _⟩ | ⟨g, _, _, hv, _, hh, _⟩
  · rw [hv] at e2; cases e2
  · rw [hv] at e2
    have hg : g = k := by simpa [Value.ownBlock] using e2
    subst hg
    constructor
    · rintro rfl; rw [h1] at hh; cases hh
    · rintro rfl; rw [h2] at hh; cases hh
theorem own_noCell {W : World} {base e s n b : Nat} {u : Value} {xs : List Value} {cs : Array Value} {T : TypeId} {m : Nat × Nat} (h : W.ownsRow base e s u n xs) (hb : W.heap[b]? = some (.cells cs T m)) (he : e ≠ T) : u.ownBlock ≠ some b := fun e2 => by
  rcases h.2 with ⟨hv, _⟩ | ⟨g, _, _, hv, _, hh, _⟩
  · rw [hv] at e2; cases e2
  · rw [hv] at e2
    have hg : g = b := by simpa [Value.ownBlock] using e2
    subst hg
    rw [hb] at hh
    simp only [Option.some.injEq, Obj.cells.injEq] at hh
    exact he hh.2.1.symm
theorem SqF.next {q b k : Nat} {w W V W9 : World} {B D : Nat} {pre : List RV2} {S : Nat → Prop} {x : List UInt8 × Nat} {v va vb va' vb' : Value} (h : SqF q b w W B D pre S) (hk : k = pre.length) (hB : B = w.heap.size) (hD : B + 6 ≤ D)
    (h1 : Boxed W (B + 4) 37 va) (h2 : W.ownsRow (D + 2) 23 1 va k (pre.map fun x => uV x.1.2)) (h3 : Boxed W (B + 5) 22 vb) (h4 : W.ownsRow (D + 2) 31 1 vb k (pre.map Prod.snd))
    (hS : S = fun k => k = B + 4 ∨ k = B + 5 ∨ va.ownBlock = some k ∨ vb.ownBlock = some k) (hov : W.ownsRow b 5 1 v x.1.length (x.1.map bv)) (hno : ∀ k, v.ownBlock = some k → k ≠ D ∧ k ≠ D + 1)
    (kw : Kept (fun q => va.ownBlock = some q ∨ vb.ownBlock = some q) W V) (n3 : ∀ q, va'.ownBlock = some q → va.ownBlock = some q ∨ W.heap.size ≤ q) (n7 : ∀ q, vb'.ownBlock = some q → vb.ownBlock = some q ∨ W.heap.size ≤ q)
    (ho3 : V.ownsRow (D + 2) 23 1 va' (k + 1) ((pre.map fun x => uV x.1.2) ++ [.int .u64 (x.2 : Nat)])) (ho7 : V.ownsRow (D + 2) 31 1 vb' (k + 1) (pre.map Prod.snd ++ [v]))
    (hW9 : W9 = (V.setCell ⟨B + 4, 0, none⟩ va').setCell ⟨B + 5, 0, none⟩ vb') :
    (∃ S', SqF q b w W9 B D (pre ++ [(x, v)]) S' ∧ Kept S W W9 ∧ ∀ k, S' k → S k ∨ W.heap.size ≤ k) ∧ W9.cell? ⟨B + 4, 0, none⟩ = some va' ∧ W9.cell? ⟨B, 0, none⟩ = some (.int .i64 (q : Nat)) := by
  have k4 := kF V (B + 4) 0 va'
  have k5 := kF (V.setCell ⟨B + 4, 0, none⟩ va') (B + 5) 0 vb'
  rw [← hW9] at k5
  have na : ∀ i, i < D → ¬ (va.ownBlock = some i ∨ vb.ownBlock = some i) := fun i hi e => e.elim (fun e => by have := own_ge h2 i e; omega) (fun e => by have := own_ge h4 i e; omega)
  have kk : Kept (fun i => i = B + 4 ∨ i = B + 5 ∨ va.ownBlock = some i ∨ vb.ownBlock = some i) W W9 :=
    ((kw.mono fun i _ e => .inr (.inr e)).trans' (k4.mono fun i _ e => .inl e)).trans' (k5.mono fun i _ e => .inr (.inl e))
  have nn : ∀ i, i < B + 4 → ¬ (i = B + 4 ∨ i = B + 5 ∨ va.ownBlock = some i ∨ vb.ownBlock = some i) := fun i hi e => by
    rcases e with e | e | e
    · omega
    · omega
    · exact na i (by omega) e
  have up : ∀ {u : Value} {n : Nat} {xs : List Value}, W.ownsRow b 5 1 u n xs → W9.ownsRow b 5 1 u n xs := fun {u n xs} hu => own_kept hu kk fun i e e2 => by
    rcases e2 with e2 | e2 | e2 | e2
    · exact own_noCell hu h1 (by decide) (e2 ▸ e)
    · exact own_noCell hu h3 (by decide) (e2 ▸ e)
    · exact own_two (by decide) hu h2 i e e2
    · exact own_two (by decide) hu h4 i e e2
  have b4 : Boxed W9 (B + 4) 37 va' := k5.heap ((show Boxed V (B + 4) 37 va from kw.heap h1 (na _ (by omega))).set va') (by omega)
  have b5 : Boxed W9 (B + 5) 22 vb' := by
    rw [hW9]
    exact (show Boxed _ (B + 5) 22 vb from k4.heap (kw.heap h3 (na _ (by omega))) (by omega)).set vb'
  have up2 : ∀ {e n : Nat} {u : Value} {xs : List Value}, V.ownsRow (D + 2) e 1 u n xs → W9.ownsRow (D + 2) e 1 u n xs := fun {e n u xs} hu =>
    own_kept (own_kept hu k4 fun i e1 e2 => by have := own_ge hu i e1; omega) k5 fun i e1 e2 => by have := own_ge hu i e1; omega
  have b0 := kk.heap h.b0 (nn _ (by omega))
  refine ⟨⟨_, ⟨b0, kk.heap h.b1 (nn _ (by omega)), kk.heap h.b2 (nn _ (by omega)), kk.heap h.b3 (nn _ (by omega)), ⟨va', vb', b4, ?_, b5, ?_, rfl⟩, ?_, ?_, h.kept.trans kk fun i hi e => absurd e (nn i (by omega))⟩, by rw [hS]; exact kk, ?_⟩, b4.cell, Boxed.cell b0⟩
  · have := up2 ho3
    rw [List.length_append, List.length_singleton, ← hk, List.map_append]
    exact this
  · have := up2 ho7
    rw [List.length_append, List.length_singleton, ← hk, List.map_append]
    exact this
  · intro y hy
    rcases List.mem_append.1 hy with hy | hy
    · exact up (h.own y hy)
    · rw [List.mem_singleton.1 hy]; exact up hov
  · intro y hy
    rcases List.mem_append.1 hy with hy | hy
    · exact h.no y hy
    · rw [List.mem_singleton.1 hy]; exact hno
  · intro i hi
    rw [hS]
    rcases hi with hi | hi | hi | hi
    · exact .inl (.inl hi)
    · exact .inl (.inr (.inl hi))
    · exact (n3 i hi).imp (fun e => .inr (.inr (.inl e))) id
    · exact (n7 i hi).imp (fun e => .inr (.inr (.inr e))) id
theorem results_cells3 {P : Program} {fn : Func} {p q r : Tmp} {ty ty' ty2 : TypeId} (h : fn.results = #[.cell p ty, .cell q ty', .cell r ty2]) (hag : ∀ w, (isAgg ty).run P w = .ok false w) (hag' : ∀ w, (isAgg ty').run P w = .ok false w) (hag2 : ∀ w, (isAgg ty2).run P w = .ok false w) {tmps : Array Value} {a b c : Addr}
    (hp : tmps.getD p undef = .pointer (some a)) (hq : tmps.getD q undef = .pointer (some b)) (hr : tmps.getD r undef = .pointer (some c)) {w : World} {v u z : Value} (hc : w.cell? a = some v) (hd : w.cell? b = some u) (he : w.cell? c = some z) :
    (results fn tmps).run P w = .ok (.tuple #[v, u, z]) w := by
  have hp' : tmps[p]?.getD undef = .pointer (some a) := by simpa using hp
  have hq' : tmps[q]?.getD undef = .pointer (some b) := by simpa using hq
  have hr' : tmps[r]?.getD undef = .pointer (some c) := by simpa using hr
  simp [results, h, hp', hq', hr', asAddr, loadVar, hag, hag', hag2, go_sem, hc, hd, he]
theorem seq2_done {W W3 : World} {B : Nat} {T1 T2 T3 : TypeId} {u1 u2 u3 v1 v2 v3 : Value} (h1 : Boxed W (B + 1) T1 u1) (h2 : Boxed W (B + 2) T2 u2) (h3 : Boxed W (B + 3) T3 u3)
    (h : W3 = (((W.setCell ⟨B + 1, 0, none⟩ v1).setCell ⟨B + 2, 0, none⟩ v2).setCell ⟨B + 3, 0, none⟩ v3).drew) :
    Boxed W3 (B + 1) T1 v1 ∧ Boxed W3 (B + 2) T2 v2 ∧ Boxed W3 (B + 3) T3 v3 ∧ Kept (fun i => i = B + 1 ∨ i = B + 2 ∨ i = B + 3) W W3 := by
  have k1 := kF W (B + 1) 0 v1
  have k2 := kF (W.setCell ⟨B + 1, 0, none⟩ v1) (B + 2) 0 v2
  have k3 := (kF ((W.setCell ⟨B + 1, 0, none⟩ v1).setCell ⟨B + 2, 0, none⟩ v2) (B + 3) 0 v3).drew
  rw [← h] at k3
  refine ⟨k3.heap (k2.heap (h1.set v1) (by omega)) (by omega), k3.heap ((show Boxed _ (B + 2) T2 u2 from k1.heap h2 (by omega)).set v2) (by omega), ?_, ?_⟩
  · rw [h]
    exact (show Boxed _ (B + 3) T3 u3 from k2.heap (k1.heap h3 (by omega)) (by omega)).set v3
  · exact ((k1.mono fun i _ e => .inl e).trans' (k2.mono fun i _ e => .inr (.inl e))).trans' (k3.mono fun i _ e => .inr (.inr e))
/-- What Seq2 hands back. -/
def Seq2Post (w : World) (b : Nat) (xs : List (List UInt8 × Nat)) (e : Ending) (w' : World) : Prop :=
  ∃ va vb, ∃ ys : List RV2, e = .returned (.tuple #[va, vb, .bool true]) ∧ ys.map Prod.fst = xs ∧ w'.ownsRow w.heap.size 23 1 va xs.length (xs.map fun x => uV x.2) ∧ w'.ownsRow w.heap.size 31 1 vb xs.length (ys.map Prod.snd) ∧ (∀ x ∈ ys, w'.ownsRow b 5 1 x.2 x.1.1.length (x.1.1.map bv)) ∧ Kept (fun _ => False) w w'
set_option maxRecDepth 100000 in
set_option maxHeartbeats 8000000 in
theorem seq2_any (q b : Nat) (w : World) (lb : Array Value) (rd : Nat → Prop) (xs : List (List UInt8 × Nat)) (hit : IterF Tryd.prog 37 lb encR (okR b) (fun _ => False) rd xs w) (hrd : ∀ k, rd k → k < w.heap.size) (hl : xs.length ≤ q) (hq9 : q ≤ 900000) (hbw : b ≤ w.heap.size) :
    Calls Tryd.prog 12 #[.func (.func 37) #[] lb, .int .i64 (q : Nat)] w (Seq2Post w b xs) := by
  have HIt := Lib.hid hit
  have HRd := Lib.hid hrd
  have Hl := Lib.hid hl
  have Hbw := Lib.hid hbw
  clear hit hrd hl hbw
  have hne : ∀ W, (binOp .eql 35 (.func (.func 37) #[] lb) .nilFunc).run Tryd.prog W = .ok (.bool false) W := fun W => by kernel_rfl
  refine calls_of_marks Tryd.func12 rfl ?_
  simp only [Tryd.ntmps12, List.size_toArray, List.length_cons, List.length_nil, Nat.reduceAdd, Nat.reduceSub, Array.replicate_succ, Array.replicate_zero, List.push_toArray, List.append_toArray, List.nil_append, List.cons_append]
  go_wp2_with fail
  obtain ⟨W0, hW0⟩ : ∃ W0, W0 = (((((w.alloc (.cells #[.int .i64 (q : Nat)] 3)).alloc (.cells #[.slice none 0 0] 37)).alloc (.cells #[.slice none 0 0] 22)).alloc (.cells #[.bool false] 4)).alloc (.cells #[.slice none 0 0] 37)).alloc (.cells #[.slice none 0 0] 22) := ⟨_, rfl⟩
  rw [← hW0]
  obtain ⟨B, hB⟩ : ∃ B, B = w.heap.size := ⟨_, rfl⟩
  have hsz : W0.heap.size = B + 6 := by rw [hW0, hB]; simp
  have hkp : Kept (fun _ => False) w W0 := by rw [hW0]; exact ((((((Kept.refl _ w).alloc _).alloc _).alloc _).alloc _).alloc _).alloc _
  have hbox : Boxed W0 B 3 (.int .i64 (q : Nat)) ∧ Boxed W0 (B + 1) 37 (.slice none 0 0) ∧ Boxed W0 (B + 2) 22 (.slice none 0 0) ∧ Boxed W0 (B + 3) 4 (.bool false) ∧ Boxed W0 (B + 4) 37 (.slice none 0 0) ∧ Boxed W0 (B + 5) 22 (.slice none 0 0) := by
    have step : ∀ (W : World) (n : Nat) (T : TypeId) (v : Value), W.heap.size = n → Boxed (W.alloc (.cells #[v] T)) n T v := fun W n T v h => by rw [← h]; exact Boxed.new W T v
    rw [hW0, hB]
    refine ⟨(((((step w _ _ _ rfl).alloc _).alloc _).alloc _).alloc _).alloc _, ((((step _ _ _ _ (by simp)).alloc _).alloc _).alloc _).alloc _, (((step _ _ _ _ (by simp)).alloc _).alloc _).alloc _, ((step _ _ _ _ (by simp)).alloc _).alloc _, (step _ _ _ _ (by simp)).alloc _, step _ _ _ _ (by simp)⟩
  clear hW0
  rw [← hB]
  have HBw := Lib.hid hB
  clear hB
  obtain ⟨h0, h1, h2, h3, h4, h5⟩ := hbox
  have Hsz := Lib.hid hsz
  have hi0 : SqF q b w W0 B W0.heap.size [] (fun k => k = B + 4 ∨ k = B + 5 ∨ (Value.slice none 0 0).ownBlock = some k ∨ (Value.slice none 0 0).ownBlock = some k) := ⟨h0, h1, h2, h3, ⟨_, _, h4, World.ownsRow_nil _ _ _ _, h5, World.ownsRow_nil _ _ _ _, rfl⟩, (fun x hx => by cases hx), (fun x hx => by cases hx), hkp⟩
  have hit := HIt.out.later hkp
  have Hkp := Lib.hid hkp
  clear h0 h1 h2 h3 h4 h5 hkp hsz HIt
  refine wp_rangeF (gf := 37) rfl (enters_of Tryd.func37 (by kernel_rfl) rfl) hit (fun x v => rfl) (fun k h => h.elim) (fun k hk => by have := HRd.out k hk; have := Hkp.out.size; omega)
    (fun pre S W => SqF q b w W B W0.heap.size pre S)
    (fun c pre W => False) _
    (fun pre S A C h hk => h.carry hk HBw.out (by have := Hsz.out; omega))
    (fun c pre A C h hk => h.elim)
    (fun pre S A h k hk => by
      obtain ⟨va, vb, g1, g2, g3, g4, rfl⟩ := h.ab
      have hB := HBw.out
      have hs := Hsz.out
      have hk2 := h.kept.size
      rcases hk with rfl | rfl | e | e
      · exact ⟨(Array.getElem?_eq_some_iff.1 g1).1, fun h => by have := HRd.out _ h; omega, by omega, by omega⟩
      · exact ⟨(Array.getElem?_eq_some_iff.1 g3).1, fun h => by have := HRd.out _ h; omega, by omega, by omega⟩
      · have := own_ge g2 k e
        exact ⟨own_ltH g2 k e, fun h => by have := HRd.out _ h; omega, by omega, by omega⟩
      · have := own_ge g4 k e
        exact ⟨own_ltH g4 k e, fun h => by have := HRd.out _ h; omega, by omega, by omega⟩)
    hi0 (fun x v => { tmps := #[.func (.func 37) #[] lb, .int .i64 (q : Nat), undef, .pointer (some ⟨B, 0, none⟩), .pointer (some ⟨B + 1, 0, none⟩), .pointer (some ⟨B + 1 + 1, 0, none⟩), .pointer (some ⟨B + 1 + 1 + 1, 0, none⟩), .pointer (some ⟨B + 1 + 1 + 1 + 1, 0, none⟩), .pointer (some ⟨B + 1 + 1 + 1 + 1 + 1, 0, none⟩), .int .u64 (x.2 : Nat), v, .func (.func 37) #[] lb, .bool false, .func (.func 37) #[] lb, .int .u64 (x.2 : Nat), v, undef, undef, undef, undef, undef, undef, undef, undef, undef, undef, undef, undef, undef, undef], defers := [] }) ?assign ?body ?done ?stop
  case assign =>
    intro l x v W K hK
    unfold encR
    gi_wp2
    exact hK
  case body =>
    rintro l pre S x v post Wa W hxs hI hov hka ⟨rl, hrl⟩ hdl hsz2
    obtain ⟨va, vb, h1, h2, h3, h4, rfl⟩ := hI.ab
    obtain ⟨Aa, ca, rfl⟩ := own_slice h2
    obtain ⟨Ab, cb, rfl⟩ := own_slice h4
    obtain ⟨Av, cv, rfl⟩ := own_slice hov
    obtain ⟨k, hk⟩ : ∃ k, k = pre.length := ⟨_, rfl⟩
    rw [← hk] at h1 h2 h3 h4
    have hkl : k + 1 ≤ q := by have := congrArg List.length hxs; simp at this; have := Hl.out; omega
    have c0 := hI.b0.cell
    have c4 := h1.cell
    have f4 := h1.frozen
    have c5 := h3.cell
    have f5 := h3.frozen
    have HI := Lib.hid hI
    have H1 := Lib.hid h1
    have H2 := Lib.hid h2
    have H3 := Lib.hid h3
    have H4 := Lib.hid h4
    have Hk := Lib.hid hk
    have HOv := Lib.hid hov
    have HNo : Hid (∀ k, (Value.slice Av x.1.length cv).ownBlock = some k → k ≠ W0.heap.size ∧ k ≠ W0.heap.size + 1) := Lib.hid (own_noLoop hov hdl hrl)
    have HOw : Hid (W.ownsRow b 5 1 (.slice Av x.1.length cv) x.1.length (x.1.map bv)) := Lib.hid (own_kept hov hka fun k e e2 => (HNo.out k e).2 e2)
    have HKa := Lib.hid hka
    have Hrl := Lib.hid hrl
    have Hdl := Lib.hid hdl
    have HSz2 := Lib.hid hsz2
    have hk9 : ¬ (q : Int) < (k : Int) + 1 := by omega
    clear hI h1 h2 h3 h4 hk hov hka hrl hdl hsz2 hit hi0 hxs
    gi_upto_region 8 with fail
    have d4 : W.drew.cell? ⟨B + 1 + 1 + 1 + 1, 0, none⟩ = some (.slice Aa k ca) := c4
    have d5 : W.drew.cell? ⟨B + 1 + 1 + 1 + 1 + 1, 0, none⟩ = some (.slice Ab k cb) := c5
    refine wpIn_region_E (fun Wx => Wx.cell? ⟨B + 1 + 1 + 1 + 1, 0, none⟩ = some (.slice Aa k ca) ∧ Wx.cell? ⟨B + 1 + 1 + 1 + 1 + 1, 0, none⟩ = some (.slice Ab k cb)) (fun i => i == 8 || i == 9) (by kernel_rfl) (by kernel_rfl) (fun ⟨_, _, h⟩ => h) ?_
    refine wpAnyE_take (i := 0) (v := ?_) rfl (by kernel_rfl) (by kernel_rfl) (by kernel_rfl) (fun _ _ _ h => h) (by kernel_rfl) rfl (Or.inl ⟨by rfl, ?_⟩) ⟨d4, d5⟩ ?_
    rotate_left
    · (rintro Wx ⟨x4, x5⟩; go_simp; try with_reducible rfl)
    refine wpAnyE_take (i := 1) (v := ?_) rfl (by kernel_rfl) (by kernel_rfl) (by kernel_rfl) (fun _ _ _ h => h) (by kernel_rfl) rfl (Or.inl ⟨by rfl, ?_⟩) ⟨d4, d5⟩ ?_
    rotate_left
    · (rintro Wx ⟨x4, x5⟩; go_simp; try with_reducible rfl)
    refine wpAnyE_take (i := 4) (v := ?_) rfl (by kernel_rfl) (by kernel_rfl) (by kernel_rfl) (fun _ _ _ h => h) (by kernel_rfl) rfl (Or.inl ⟨by rfl, ?_⟩) ⟨d4, d5⟩ ?_
    rotate_left
    · (rintro Wx ⟨x4, x5⟩; go_simp; try with_reducible rfl)
    refine wpAnyE_take (i := 5) (v := ?_) rfl (by kernel_rfl) (by kernel_rfl) (by kernel_rfl) (fun _ _ _ h => h) (by kernel_rfl) rfl (Or.inl ⟨by rfl, ?_⟩) ⟨d4, d5⟩ ?_
    rotate_left
    · (rintro Wx ⟨x4, x5⟩; go_simp; try with_reducible rfl)
    have oa := H2.out
    have ob := H4.out
    have kw : Kept (fun q => (Value.slice Aa k ca).ownBlock = some q ∨ (Value.slice Ab k cb).ownBlock = some q) W W := Kept.refl _ W
    have na4 : ¬ (Value.slice Aa k ca).ownBlock = some (B + 1 + 1 + 1 + 1) := fun e => by have := own_ge oa _ e; have := Hsz.out; omega
    have na5 : ¬ (Value.slice Aa k ca).ownBlock = some (B + 1 + 1 + 1 + 1 + 1) := fun e => by have := own_ge oa _ e; have := Hsz.out; omega
    have nb4 : ¬ (Value.slice Ab k cb).ownBlock = some (B + 1 + 1 + 1 + 1) := fun e => by have := own_ge ob _ e; have := Hsz.out; omega
    have nb5 : ¬ (Value.slice Ab k cb).ownBlock = some (B + 1 + 1 + 1 + 1 + 1) := fun e => by have := own_ge ob _ e; have := Hsz.out; omega
    have fz4 : ∀ {X}, Kept (fun q => (Value.slice Aa k ca).ownBlock = some q ∨ (Value.slice Ab k cb).ownBlock = some q) W X → X.frozen? ⟨B + 1 + 1 + 1 + 1, 0, none⟩ = false := fun hX => (World.frozen?_of_block (hX.block _ (World.block_lt_of_cell? W _ c4) (fun e => e.elim na4 nb4))).trans f4
    have fz5 : ∀ {X}, Kept (fun q => (Value.slice Aa k ca).ownBlock = some q ∨ (Value.slice Ab k cb).ownBlock = some q) W X → X.frozen? ⟨B + 1 + 1 + 1 + 1 + 1, 0, none⟩ = false := fun hX => (World.frozen?_of_block (hX.block _ (World.block_lt_of_cell? W _ c5) (fun e => e.elim na5 nb5))).trans f5
    refine wpAnyE_ready (rs := [2, 6]) (by kernel_rfl) (by simp) ?_
    refine ReadyE.cons rfl (fun K hK => ?_) (ReadyE.cons rfl (fun K hK => ?_) ReadyE.nil)
    focus
      go_simp
      obtain ⟨b2, hb2⟩ : ∃ b2, b2 = W.heap.size := ⟨_, rfl⟩
      obtain ⟨V2, hV2⟩ : ∃ V2, V2 = (W.alloc (.cells #[.int .u64 (x.2 : Nat)] 23)).drew := ⟨_, rfl⟩
      have kV2 : Kept (fun _ => False) W V2 := by rw [hV2]; exact ((Kept.refl _ W).alloc _).drew
      have x2 : V2.heap[b2]? = some (.cells #[.int .u64 (x.2 : Nat)] 23 (0, 0)) := by rw [hV2, hb2]; exact heap_alloc_new W _
      rw [← hb2, ← hV2]
      have l2 : W.heap.size ≤ b2 := by rw [hb2]; exact kw.size
      clear hV2 hb2
      have e4 := kV2.cell c4 (by simp)
      have e5 := kV2.cell c5 (by simp)
      clear d4 d5
      have d4 := e4
      have d5 := e5
      clear e4 e5
      have pa := own_kept oa kV2 (by simp)
      clear oa
      have oa := pa
      clear pa
      have pb := own_kept ob kV2 (by simp)
      clear ob
      have ob := pb
      clear pb
      have kn := kw.trans' (kV2.mono fun q _ e => e.elim)
      clear kw
      have kw := kn
      clear kn kV2
      refine hK.out _ _ (fun _ => ⟨d4, d5⟩) ?_
      clear hK K
      refine wpAnyE_ready (rs := [3, 6]) (by kernel_rfl) (by simp) ?_
      refine ReadyE.cons rfl (fun K hK => ?_) (ReadyE.cons rfl (fun K hK => ?_) ReadyE.nil)
      focus
        have hcs3 : Cs V2 (some ⟨b2, 0, none⟩) [.int .u64 (x.2 : Nat)] := cs_one x2
        refine step_append_e elemU rfl _ _ rfl (W0.heap.size + 2) (.slice Aa k ca) k (pre.map fun x => uV x.1.2) rfl oa _ 1 1 [.int .u64 (x.2 : Nat)] rfl hcs3 rfl (by simp [Value.oneCell']) (fun e => by cases e) (by omega) (by have := kw.size; have := HSz2.out; omega) ?_
        intro v3 V3 ho3 hg3
        obtain ⟨A3, c3, rfl⟩ := own_slice ho3
        have N3 : Hid (∀ q, (Value.slice A3 (k + 1) c3).ownBlock = some q → (Value.slice Aa k ca).ownBlock = some q ∨ W.heap.size ≤ q) := Lib.hid (grew_blk hg3 kw.size)
        go_simp
        have kV3 : Kept (fun q => (Value.slice Aa k ca).ownBlock = some q) V2 V3 := hg3.kept
        have e4 := kV3.cell d4 na4
        have e5 := kV3.cell d5 na5
        clear d4 d5
        have d4 := e4
        have d5 := e5
        clear e4 e5
        have y2 := kV3.heap x2 (fun e => by have := own_ltH H2.out _ e; omega)
        clear x2
        have x2 := y2
        clear y2
        have pb := own_kept ob kV3 (fun q e e2 => own_two (by decide) ob oa q e e2)
        clear ob
        have ob := pb
        clear pb
        have kn := kw.trans' (kV3.mono fun q _ e => .inl e)
        clear kw
        have kw := kn
        clear kn kV3
        clear hcs3 hg3
        refine hK.out _ _ (fun _ => ⟨d4, d5⟩) ?_
        clear hK K
        refine wpAnyE_ready (rs := [6]) (by kernel_rfl) (by simp) ?_
        refine ReadyE.cons rfl (fun K hK => ?_) ReadyE.nil
        go_simp
        obtain ⟨b6, hb6⟩ : ∃ b6, b6 = V3.heap.size := ⟨_, rfl⟩
        obtain ⟨V4, hV4⟩ : ∃ V4, V4 = (V3.alloc (.cells #[.slice Av x.1.length cv] 31)) := ⟨_, rfl⟩
        have kV4 : Kept (fun _ => False) V3 V4 := by rw [hV4]; exact (Kept.refl _ V3).alloc _
        have x6 : V4.heap[b6]? = some (.cells #[.slice Av x.1.length cv] 31 (0, 0)) := by rw [hV4, hb6]; exact heap_alloc_new V3 _
        rw [← hb6, ← hV4]
        have l6 : W.heap.size ≤ b6 := by rw [hb6]; exact kw.size
        clear hV4 hb6
        have e4 := kV4.cell d4 (by simp)
        have e5 := kV4.cell d5 (by simp)
        clear d4 d5
        have d4 := e4
        have d5 := e5
        clear e4 e5
        have y2 := kV4.heap x2 (by simp)
        clear x2
        have x2 := y2
        clear y2
        have p3 := own_kept ho3 kV4 (by simp)
        clear ho3
        have ho3 := p3
        clear p3
        have pb := own_kept ob kV4 (by simp)
        clear ob
        have ob := pb
        clear pb
        have kn := kw.trans' (kV4.mono fun q _ e => e.elim)
        clear kw
        have kw := kn
        clear kn kV4
        refine hK.out _ _ (fun _ => ⟨d4, d5⟩) ?_
        clear hK K
        refine wpAnyE_ready (rs := [7]) (by kernel_rfl) (by simp) ?_
        refine ReadyE.cons rfl (fun K hK => ?_) ReadyE.nil
        have hcs7 : Cs V4 (some ⟨b6, 0, none⟩) [.slice Av x.1.length cv] := cs_one x6
        refine step_append_e elemBs rfl _ _ rfl (W0.heap.size + 2) (.slice Ab k cb) k (pre.map Prod.snd) rfl ob _ 1 1 [.slice Av x.1.length cv] rfl hcs7 rfl (by simp [Value.oneCell']) (fun e => by cases e) (by omega) (by have := kw.size; have := HSz2.out; omega) ?_
        intro v7 V5 ho7 hg7
        obtain ⟨A7, c7, rfl⟩ := own_slice ho7
        have N7 : Hid (∀ q, (Value.slice A7 (k + 1) c7).ownBlock = some q → (Value.slice Ab k cb).ownBlock = some q ∨ W.heap.size ≤ q) := Lib.hid (grew_blk hg7 kw.size)
        go_simp
        have kV5 : Kept (fun q => (Value.slice Ab k cb).ownBlock = some q) V4 V5 := hg7.kept
        have e4 := kV5.cell d4 nb4
        have e5 := kV5.cell d5 nb5
        clear d4 d5
        have d4 := e4
        have d5 := e5
        clear e4 e5
        have y2 := kV5.heap x2 (fun e => by have := own_ltH H4.out _ e; omega)
        clear x2
        have x2 := y2
        clear y2
        have y6 := kV5.heap x6 (fun e => by have := own_ltH H4.out _ e; omega)
        clear x6
        have x6 := y6
        clear y6
        have p3 := own_kept ho3 kV5 (fun q e e2 => own_two (by decide) ho3 ob q e e2)
        clear ho3
        have ho3 := p3
        clear p3
        have kn := kw.trans' (kV5.mono fun q _ e => .inr e)
        clear kw
        have kw := kn
        clear kn kV5
        clear hcs7 hg7
        refine hK.out _ _ (fun _ => ⟨d4, d5⟩) ?_
        clear hK K
        refine wpAnyE_ready (rs := [8]) (by kernel_rfl) (by simp) ?_
        refine ReadyE.cons rfl (fun K hK => ?_) ReadyE.nil
        have g4 : V5.frozen? ⟨B + 1 + 1 + 1 + 1, 0, none⟩ = false := fz4 kw
        go_simp
        obtain ⟨V6, hV6⟩ : ∃ V6, V6 = V5.setCell ⟨B + 1 + 1 + 1 + 1, 0, none⟩ (.slice A3 (k + 1) c3) := ⟨_, rfl⟩
        rw [← hV6]
        have e5 : V6.cell? ⟨B + 1 + 1 + 1 + 1 + 1, 0, none⟩ = some (.slice Ab k cb) := by rw [hV6]; exact (kF V5 (B + 1 + 1 + 1 + 1) 0 _).cell d5 (by simp)
        have g5 : V6.frozen? ⟨B + 1 + 1 + 1 + 1 + 1, 0, none⟩ = false := by rw [hV6]; exact (World.frozen?_of_block ((kF V5 (B + 1 + 1 + 1 + 1) 0 _).block (B + 1 + 1 + 1 + 1 + 1) (World.block_lt_of_cell? V5 _ d5) (by simp))).trans (fz5 kw)
        have HV6 := Lib.hid hV6
        clear d4 d5 g4 hV6
        refine hK.out _ _ (fun h => by cases h) ?_
        clear hK K
        refine wpAnyE_ready (rs := [9]) (by kernel_rfl) (by simp) ?_
        refine ReadyE.cons rfl (fun K hK => ?_) ReadyE.nil
        go_simp
        refine hK.out _ _ (fun h => by cases h) ?_
        clear hK K
        refine wpAnyE_done (by kernel_rfl) ?_ _
        obtain ⟨W9, hW9⟩ : ∃ W9, W9 = V6.setCell ⟨B + 1 + 1 + 1 + 1 + 1, 0, none⟩ (.slice A7 (k + 1) c7) := ⟨_, rfl⟩
        rw [← hW9]
        rw [HV6.out] at hW9
        have HN := Lib.hid (HI.out.next (x := x) Hk.out HBw.out (by have := Hsz.out; omega) H1.out H2.out H3.out H4.out (by rw [Hk.out]) HOw.out HNo.out kw N3.out N7.out ho3 ho7 hW9)
        have r4 := HN.out.2.1
        have r0 := HN.out.2.2
        clear hW9 ho3 ho7 kw x2 x6 l2 l6 e5 g5
        gi_wp2
        exact HN.out.1
      focus
        go_simp
        obtain ⟨b6, hb6⟩ : ∃ b6, b6 = V2.heap.size := ⟨_, rfl⟩
        obtain ⟨V3, hV3⟩ : ∃ V3, V3 = (V2.alloc (.cells #[.slice Av x.1.length cv] 31)) := ⟨_, rfl⟩
        have kV3 : Kept (fun _ => False) V2 V3 := by rw [hV3]; exact (Kept.refl _ V2).alloc _
        have x6 : V3.heap[b6]? = some (.cells #[.slice Av x.1.length cv] 31 (0, 0)) := by rw [hV3, hb6]; exact heap_alloc_new V2 _
        rw [← hb6, ← hV3]
        have l6 : W.heap.size ≤ b6 := by rw [hb6]; exact kw.size
        clear hV3 hb6
        have e4 := kV3.cell d4 (by simp)
        have e5 := kV3.cell d5 (by simp)
        clear d4 d5
        have d4 := e4
        have d5 := e5
        clear e4 e5
        have y2 := kV3.heap x2 (by simp)
        clear x2
        have x2 := y2
        clear y2
        have pa := own_kept oa kV3 (by simp)
        clear oa
        have oa := pa
        clear pa
        have pb := own_kept ob kV3 (by simp)
        clear ob
        have ob := pb
        clear pb
        have kn := kw.trans' (kV3.mono fun q _ e => e.elim)
        clear kw
        have kw := kn
        clear kn kV3
        refine hK.out _ _ (fun _ => ⟨d4, d5⟩) ?_
        clear hK K
        refine wpAnyE_ready (rs := [3]) (by kernel_rfl) (by simp) ?_
        refine ReadyE.cons rfl (fun K hK => ?_) ReadyE.nil
        have hcs3 : Cs V3 (some ⟨b2, 0, none⟩) [.int .u64 (x.2 : Nat)] := cs_one x2
        refine step_append_e elemU rfl _ _ rfl (W0.heap.size + 2) (.slice Aa k ca) k (pre.map fun x => uV x.1.2) rfl oa _ 1 1 [.int .u64 (x.2 : Nat)] rfl hcs3 rfl (by simp [Value.oneCell']) (fun e => by cases e) (by omega) (by have := kw.size; have := HSz2.out; omega) ?_
        intro v3 V4 ho3 hg3
        obtain ⟨A3, c3, rfl⟩ := own_slice ho3
        have N3 : Hid (∀ q, (Value.slice A3 (k + 1) c3).ownBlock = some q → (Value.slice Aa k ca).ownBlock = some q ∨ W.heap.size ≤ q) := Lib.hid (grew_blk hg3 kw.size)
        go_simp
        have kV4 : Kept (fun q => (Value.slice Aa k ca).ownBlock = some q) V3 V4 := hg3.kept
        have e4 := kV4.cell d4 na4
        have e5 := kV4.cell d5 na5
        clear d4 d5
        have d4 := e4
        have d5 := e5
        clear e4 e5
        have y2 := kV4.heap x2 (fun e => by have := own_ltH H2.out _ e; omega)
        clear x2
        have x2 := y2
        clear y2
        have y6 := kV4.heap x6 (fun e => by have := own_ltH H2.out _ e; omega)
        clear x6
        have x6 := y6
        clear y6
        have pb := own_kept ob kV4 (fun q e e2 => own_two (by decide) ob oa q e e2)
        clear ob
        have ob := pb
        clear pb
        have kn := kw.trans' (kV4.mono fun q _ e => .inl e)
        clear kw
        have kw := kn
        clear kn kV4
        clear hcs3 hg3
        refine hK.out _ _ (fun _ => ⟨d4, d5⟩) ?_
        clear hK K
        refine wpAnyE_ready (rs := [7]) (by kernel_rfl) (by simp) ?_
        refine ReadyE.cons rfl (fun K hK => ?_) ReadyE.nil
        have hcs7 : Cs V4 (some ⟨b6, 0, none⟩) [.slice Av x.1.length cv] := cs_one x6
        refine step_append_e elemBs rfl _ _ rfl (W0.heap.size + 2) (.slice Ab k cb) k (pre.map Prod.snd) rfl ob _ 1 1 [.slice Av x.1.length cv] rfl hcs7 rfl (by simp [Value.oneCell']) (fun e => by cases e) (by omega) (by have := kw.size; have := HSz2.out; omega) ?_
        intro v7 V5 ho7 hg7
        obtain ⟨A7, c7, rfl⟩ := own_slice ho7
        have N7 : Hid (∀ q, (Value.slice A7 (k + 1) c7).ownBlock = some q → (Value.slice Ab k cb).ownBlock = some q ∨ W.heap.size ≤ q) := Lib.hid (grew_blk hg7 kw.size)
        go_simp
        have kV5 : Kept (fun q => (Value.slice Ab k cb).ownBlock = some q) V4 V5 := hg7.kept
        have e4 := kV5.cell d4 nb4
        have e5 := kV5.cell d5 nb5
        clear d4 d5
        have d4 := e4
        have d5 := e5
        clear e4 e5
        have y2 := kV5.heap x2 (fun e => by have := own_ltH H4.out _ e; omega)
        clear x2
        have x2 := y2
        clear y2
        have y6 := kV5.heap x6 (fun e => by have := own_ltH H4.out _ e; omega)
        clear x6
        have x6 := y6
        clear y6
        have p3 := own_kept ho3 kV5 (fun q e e2 => own_two (by decide) ho3 ob q e e2)
        clear ho3
        have ho3 := p3
        clear p3
        have kn := kw.trans' (kV5.mono fun q _ e => .inr e)
        clear kw
        have kw := kn
        clear kn kV5
        clear hcs7 hg7
        refine hK.out _ _ (fun _ => ⟨d4, d5⟩) ?_
        clear hK K
        refine wpAnyE_ready (rs := [8]) (by kernel_rfl) (by simp) ?_
        refine ReadyE.cons rfl (fun K hK => ?_) ReadyE.nil
        have g4 : V5.frozen? ⟨B + 1 + 1 + 1 + 1, 0, none⟩ = false := fz4 kw
        go_simp
        obtain ⟨V6, hV6⟩ : ∃ V6, V6 = V5.setCell ⟨B + 1 + 1 + 1 + 1, 0, none⟩ (.slice A3 (k + 1) c3) := ⟨_, rfl⟩
        rw [← hV6]
        have e5 : V6.cell? ⟨B + 1 + 1 + 1 + 1 + 1, 0, none⟩ = some (.slice Ab k cb) := by rw [hV6]; exact (kF V5 (B + 1 + 1 + 1 + 1) 0 _).cell d5 (by simp)
        have g5 : V6.frozen? ⟨B + 1 + 1 + 1 + 1 + 1, 0, none⟩ = false := by rw [hV6]; exact (World.frozen?_of_block ((kF V5 (B + 1 + 1 + 1 + 1) 0 _).block (B + 1 + 1 + 1 + 1 + 1) (World.block_lt_of_cell? V5 _ d5) (by simp))).trans (fz5 kw)
        have HV6 := Lib.hid hV6
        clear d4 d5 g4 hV6
        refine hK.out _ _ (fun h => by cases h) ?_
        clear hK K
        refine wpAnyE_ready (rs := [9]) (by kernel_rfl) (by simp) ?_
        refine ReadyE.cons rfl (fun K hK => ?_) ReadyE.nil
        go_simp
        refine hK.out _ _ (fun h => by cases h) ?_
        clear hK K
        refine wpAnyE_done (by kernel_rfl) ?_ _
        obtain ⟨W9, hW9⟩ : ∃ W9, W9 = V6.setCell ⟨B + 1 + 1 + 1 + 1 + 1, 0, none⟩ (.slice A7 (k + 1) c7) := ⟨_, rfl⟩
        rw [← hW9]
        rw [HV6.out] at hW9
        have HN := Lib.hid (HI.out.next (x := x) Hk.out HBw.out (by have := Hsz.out; omega) H1.out H2.out H3.out H4.out (by rw [Hk.out]) HOw.out HNo.out kw N3.out N7.out ho3 ho7 hW9)
        have r4 := HN.out.2.1
        have r0 := HN.out.2.2
        clear hW9 ho3 ho7 kw x2 x6 l2 l6 e5 g5
        gi_wp2
        exact HN.out.1
    focus
      go_simp
      obtain ⟨b6, hb6⟩ : ∃ b6, b6 = W.heap.size := ⟨_, rfl⟩
      obtain ⟨V2, hV2⟩ : ∃ V2, V2 = (W.alloc (.cells #[.slice Av x.1.length cv] 31)).drew := ⟨_, rfl⟩
      have kV2 : Kept (fun _ => False) W V2 := by rw [hV2]; exact ((Kept.refl _ W).alloc _).drew
      have x6 : V2.heap[b6]? = some (.cells #[.slice Av x.1.length cv] 31 (0, 0)) := by rw [hV2, hb6]; exact heap_alloc_new W _
      rw [← hb6, ← hV2]
      have l6 : W.heap.size ≤ b6 := by rw [hb6]; exact kw.size
      clear hV2 hb6
      have e4 := kV2.cell c4 (by simp)
      have e5 := kV2.cell c5 (by simp)
      clear d4 d5
      have d4 := e4
      have d5 := e5
      clear e4 e5
      have pa := own_kept oa kV2 (by simp)
      clear oa
      have oa := pa
      clear pa
      have pb := own_kept ob kV2 (by simp)
      clear ob
      have ob := pb
      clear pb
      have kn := kw.trans' (kV2.mono fun q _ e => e.elim)
      clear kw
      have kw := kn
      clear kn kV2
      refine hK.out _ _ (fun _ => ⟨d4, d5⟩) ?_
      clear hK K
      refine wpAnyE_ready (rs := [2]) (by kernel_rfl) (by simp) ?_
      refine ReadyE.cons rfl (fun K hK => ?_) ReadyE.nil
      go_simp
      obtain ⟨b2, hb2⟩ : ∃ b2, b2 = V2.heap.size := ⟨_, rfl⟩
      obtain ⟨V3, hV3⟩ : ∃ V3, V3 = (V2.alloc (.cells #[.int .u64 (x.2 : Nat)] 23)) := ⟨_, rfl⟩
      have kV3 : Kept (fun _ => False) V2 V3 := by rw [hV3]; exact (Kept.refl _ V2).alloc _
      have x2 : V3.heap[b2]? = some (.cells #[.int .u64 (x.2 : Nat)] 23 (0, 0)) := by rw [hV3, hb2]; exact heap_alloc_new V2 _
      rw [← hb2, ← hV3]
      have l2 : W.heap.size ≤ b2 := by rw [hb2]; exact kw.size
      clear hV3 hb2
      have e4 := kV3.cell d4 (by simp)
      have e5 := kV3.cell d5 (by simp)
      clear d4 d5
      have d4 := e4
      have d5 := e5
      clear e4 e5
      have y6 := kV3.heap x6 (by simp)
      clear x6
      have x6 := y6
      clear y6
      have pa := own_kept oa kV3 (by simp)
      clear oa
      have oa := pa
      clear pa
      have pb := own_kept ob kV3 (by simp)
      clear ob
      have ob := pb
      clear pb
      have kn := kw.trans' (kV3.mono fun q _ e => e.elim)
      clear kw
      have kw := kn
      clear kn kV3
      refine hK.out _ _ (fun _ => ⟨d4, d5⟩) ?_
      clear hK K
      refine wpAnyE_ready (rs := [3]) (by kernel_rfl) (by simp) ?_
      refine ReadyE.cons rfl (fun K hK => ?_) ReadyE.nil
      have hcs3 : Cs V3 (some ⟨b2, 0, none⟩) [.int .u64 (x.2 : Nat)] := cs_one x2
      refine step_append_e elemU rfl _ _ rfl (W0.heap.size + 2) (.slice Aa k ca) k (pre.map fun x => uV x.1.2) rfl oa _ 1 1 [.int .u64 (x.2 : Nat)] rfl hcs3 rfl (by simp [Value.oneCell']) (fun e => by cases e) (by omega) (by have := kw.size; have := HSz2.out; omega) ?_
      intro v3 V4 ho3 hg3
      obtain ⟨A3, c3, rfl⟩ := own_slice ho3
      have N3 : Hid (∀ q, (Value.slice A3 (k + 1) c3).ownBlock = some q → (Value.slice Aa k ca).ownBlock = some q ∨ W.heap.size ≤ q) := Lib.hid (grew_blk hg3 kw.size)
      go_simp
      have kV4 : Kept (fun q => (Value.slice Aa k ca).ownBlock = some q) V3 V4 := hg3.kept
      have e4 := kV4.cell d4 na4
      have e5 := kV4.cell d5 na5
      clear d4 d5
      have d4 := e4
      have d5 := e5
      clear e4 e5
      have y2 := kV4.heap x2 (fun e => by have := own_ltH H2.out _ e; omega)
      clear x2
      have x2 := y2
      clear y2
      have y6 := kV4.heap x6 (fun e => by have := own_ltH H2.out _ e; omega)
      clear x6
      have x6 := y6
      clear y6
      have pb := own_kept ob kV4 (fun q e e2 => own_two (by decide) ob oa q e e2)
      clear ob
      have ob := pb
      clear pb
      have kn := kw.trans' (kV4.mono fun q _ e => .inl e)
      clear kw
      have kw := kn
      clear kn kV4
      clear hcs3 hg3
      refine hK.out _ _ (fun _ => ⟨d4, d5⟩) ?_
      clear hK K
      refine wpAnyE_ready (rs := [7]) (by kernel_rfl) (by simp) ?_
      refine ReadyE.cons rfl (fun K hK => ?_) ReadyE.nil
      have hcs7 : Cs V4 (some ⟨b6, 0, none⟩) [.slice Av x.1.length cv] := cs_one x6
      refine step_append_e elemBs rfl _ _ rfl (W0.heap.size + 2) (.slice Ab k cb) k (pre.map Prod.snd) rfl ob _ 1 1 [.slice Av x.1.length cv] rfl hcs7 rfl (by simp [Value.oneCell']) (fun e => by cases e) (by omega) (by have := kw.size; have := HSz2.out; omega) ?_
      intro v7 V5 ho7 hg7
      obtain ⟨A7, c7, rfl⟩ := own_slice ho7
      have N7 : Hid (∀ q, (Value.slice A7 (k + 1) c7).ownBlock = some q → (Value.slice Ab k cb).ownBlock = some q ∨ W.heap.size ≤ q) := Lib.hid (grew_blk hg7 kw.size)
      go_simp
      have kV5 : Kept (fun q => (Value.slice Ab k cb).ownBlock = some q) V4 V5 := hg7.kept
      have e4 := kV5.cell d4 nb4
      have e5 := kV5.cell d5 nb5
      clear d4 d5
      have d4 := e4
      have d5 := e5
      clear e4 e5
      have y2 := kV5.heap x2 (fun e => by have := own_ltH H4.out _ e; omega)
      clear x2
      have x2 := y2
      clear y2
      have y6 := kV5.heap x6 (fun e => by have := own_ltH H4.out _ e; omega)
      clear x6
      have x6 := y6
      clear y6
      have p3 := own_kept ho3 kV5 (fun q e e2 => own_two (by decide) ho3 ob q e e2)
      clear ho3
      have ho3 := p3
      clear p3
      have kn := kw.trans' (kV5.mono fun q _ e => .inr e)
      clear kw
      have kw := kn
      clear kn kV5
      clear hcs7 hg7
      refine hK.out _ _ (fun _ => ⟨d4, d5⟩) ?_
      clear hK K
      refine wpAnyE_ready (rs := [8]) (by kernel_rfl) (by simp) ?_
      refine ReadyE.cons rfl (fun K hK => ?_) ReadyE.nil
      have g4 : V5.frozen? ⟨B + 1 + 1 + 1 + 1, 0, none⟩ = false := fz4 kw
      go_simp
      obtain ⟨V6, hV6⟩ : ∃ V6, V6 = V5.setCell ⟨B + 1 + 1 + 1 + 1, 0, none⟩ (.slice A3 (k + 1) c3) := ⟨_, rfl⟩
      rw [← hV6]
      have e5 : V6.cell? ⟨B + 1 + 1 + 1 + 1 + 1, 0, none⟩ = some (.slice Ab k cb) := by rw [hV6]; exact (kF V5 (B + 1 + 1 + 1 + 1) 0 _).cell d5 (by simp)
      have g5 : V6.frozen? ⟨B + 1 + 1 + 1 + 1 + 1, 0, none⟩ = false := by rw [hV6]; exact (World.frozen?_of_block ((kF V5 (B + 1 + 1 + 1 + 1) 0 _).block (B + 1 + 1 + 1 + 1 + 1) (World.block_lt_of_cell? V5 _ d5) (by simp))).trans (fz5 kw)
      have HV6 := Lib.hid hV6
      clear d4 d5 g4 hV6
      refine hK.out _ _ (fun h => by cases h) ?_
      clear hK K
      refine wpAnyE_ready (rs := [9]) (by kernel_rfl) (by simp) ?_
      refine ReadyE.cons rfl (fun K hK => ?_) ReadyE.nil
      go_simp
      refine hK.out _ _ (fun h => by cases h) ?_
      clear hK K
      refine wpAnyE_done (by kernel_rfl) ?_ _
      obtain ⟨W9, hW9⟩ : ∃ W9, W9 = V6.setCell ⟨B + 1 + 1 + 1 + 1 + 1, 0, none⟩ (.slice A7 (k + 1) c7) := ⟨_, rfl⟩
      rw [← hW9]
      rw [HV6.out] at hW9
      have HN := Lib.hid (HI.out.next (x := x) Hk.out HBw.out (by have := Hsz.out; omega) H1.out H2.out H3.out H4.out (by rw [Hk.out]) HOw.out HNo.out kw N3.out N7.out ho3 ho7 hW9)
      have r4 := HN.out.2.1
      have r0 := HN.out.2.2
      clear hW9 ho3 ho7 kw x2 x6 l2 l6 e5 g5
      gi_wp2
      exact HN.out.1
  case done =>
    rintro ys S W hys hI hD
    obtain ⟨va, vb, h1, h2, h3, h4, rfl⟩ := hI.ab
    obtain ⟨Aa, ca, rfl⟩ := own_slice h2
    obtain ⟨Ab, cb, rfl⟩ := own_slice h4
    obtain ⟨k, hk⟩ : ∃ k, k = ys.length := ⟨_, rfl⟩
    rw [← hk] at h1 h2 h3 h4
    have c1 := hI.b1.cell
    have c2 := hI.b2.cell
    have c3 := hI.b3.cell
    have c4 := h1.cell
    have c5 := h3.cell
    have f1 := hI.b1.frozen
    have f2 := hI.b2.frozen
    have f3 := hI.b3.frozen
    have HD := Lib.hid hD
    have HI := Lib.hid hI
    have H2 := Lib.hid h2
    have H4 := Lib.hid h4
    have Hk := Lib.hid hk
    have Hys := Lib.hid hys
    clear hI h1 h2 h3 h4 hk hD hit hi0 hys
    go_wp2_with fail
    go_region_law (fail)
    all_goals
      obtain ⟨W3, hW3⟩ : ∃ W3, W3 = (((W.setCell ⟨B + 1, 0, none⟩ (.slice Aa k ca)).setCell ⟨B + 1 + 1, 0, none⟩ (.slice Ab k cb)).setCell ⟨B + 1 + 1 + 1, 0, none⟩ (.bool true)).drew := ⟨_, rfl⟩
      rw [← hW3]
      have HX := Lib.hid (seq2_done HI.out.b1 HI.out.b2 HI.out.b3 hW3)
      clear hW3
      go_wp2
      have HBB := HBw.out
      have hW0 := Hsz.out
      refine leave_mark (HX.out.2.2.2.heap HD.out (by omega)) (results_cells3 rfl (fun w => by kernel_rfl) (fun w => by kernel_rfl) (fun w => by kernel_rfl) rfl rfl rfl (v := .slice Aa k ca) (u := .slice Ab k cb) (z := .bool true) ?_ ?_ ?_) ⟨_, _, ys, rfl, Hys.out, ?_, ?_, ?_, ?_⟩
      · exact Boxed.cell ((putObj_kept W3 W0.heap.size (.deferred none)).heap HX.out.1 (by omega))
      · exact Boxed.cell ((putObj_kept W3 W0.heap.size (.deferred none)).heap HX.out.2.1 (by omega))
      · exact Boxed.cell ((putObj_kept W3 W0.heap.size (.deferred none)).heap HX.out.2.2.1 (by omega))
      all_goals have hkk : Kept (fun i => (i = B + 1 ∨ i = B + 2 ∨ i = B + 3) ∨ i = W0.heap.size) W (W3.putObj W0.heap.size (.deferred none)) := (HX.out.2.2.2.mono fun i _ e => .inl e).trans' ((putObj_kept W3 W0.heap.size (.deferred none)).mono fun i _ e => .inr e)
      · have hl : xs.length = k := by rw [← Hys.out, List.length_map, Hk.out]
        have hx : xs.map (fun x => uV x.2) = ys.map fun x => uV x.1.2 := by rw [← Hys.out, List.map_map]; rfl
        rw [hl, hx]
        exact own_weak (by omega) (own_kept H2.out hkk fun i e e2 => by have := own_ge H2.out i e; omega)
      · have hl : xs.length = k := by rw [← Hys.out, List.length_map, Hk.out]
        rw [hl]
        exact own_weak (by omega) (own_kept H4.out hkk fun i e e2 => by have := own_ge H4.out i e; omega)
      · intro x hx
        refine own_kept (HI.out.own x hx) hkk fun i e e2 => ?_
        rcases e2 with (e2 | e2 | e2) | e2
        · exact own_noCell (HI.out.own x hx) HI.out.b1 (by decide) (e2 ▸ e)
        · exact own_noCell (HI.out.own x hx) HI.out.b2 (by decide) (e2 ▸ e)
        · exact own_noCell (HI.out.own x hx) HI.out.b3 (by decide) (e2 ▸ e)
        · exact (HI.out.no x hx i e).1 e2
      · exact HI.out.kept.trans hkk fun i hi e => by omega
  case stop =>
    rintro c pre W hpre h
    exact h.elim
end Go.Proofs.YtefpigakhhfcaaaDoor
end
