import Derived.Test.YtibalgfejfjndaaGreatDoorMar
import Derived.Test.YtibalgfejfjndaaGreatDoorMaq
/-! couranthelp.Seq2 over what From hands back. -/
section
set_option linter.unusedVariables false
set_option linter.unusedSimpArgs false
namespace Go.Proofs.YtibalgfejfjndaaGreatDoor
open Go.RowKit Go.Sort
attribute [local go_sem] Oper.semAt_some

abbrev RV2 := (List UInt8 × Nat) × Value
theorem elemU : ElemT 51 27 1 8 := ElemT.of Tryz.underlying51 infoU64 rfl (by decide) (by decide)
theorem IterF.later {α β : Type} {P : Program} {gf : Nat} {lb : Array Value} {encs : α → β → Array Value} {ok : α → β → World → Prop} {own rd : Nat → Prop} {xs : List α} {w w' : World} (h : IterF P gf lb encs ok own rd xs w) (hk : Kept (fun _ => False) w w') : IterF P gf lb encs ok own rd xs w' :=
  fun l J Jx S0 W hW => h l J Jx S0 W (hk.trans' hW)
theorem cs_one {W : World} {b : Nat} {T : TypeId} {v : Value} (h : W.heap[b]? = some (.cells #[v] T (0, 0))) : Cs W (some ⟨b, 0, none⟩) [v] := by
  refine ⟨fun e => by simp at e, fun ad e j u hu => ?_⟩
  injection e with e
  subst e
  exact World.news_of_block (cs := #[v]) h j u (by simpa using hu)
structure SqF (q b : Nat) (w W : World) (B D : Nat) (pre : List RV2) (S : Nat → Prop) : Prop where
  b0 : Boxed W B 3 (.int .i64 (q : Nat))
  b1 : Boxed W (B + 1) 51 (.slice none 0 0)
  b2 : Boxed W (B + 2) 28 (.slice none 0 0)
  b3 : Boxed W (B + 3) 4 (.bool false)
  ab : ∃ va vb, Boxed W (B + 4) 51 va ∧ W.ownsRow (D + 2) 27 1 va pre.length (pre.map fun x => uV x.1.2) ∧ Boxed W (B + 5) 28 vb ∧ W.ownsRow (D + 2) 30 1 vb pre.length (pre.map Prod.snd) ∧ S = fun k => k = B + 4 ∨ k = B + 5 ∨ va.ownBlock = some k ∨ vb.ownBlock = some k
  own : ∀ x ∈ pre, W.ownsRow b 5 1 x.2 x.1.1.length (x.1.1.map bv)
  no : ∀ x ∈ pre, ∀ k, x.2.ownBlock = some k → k ≠ D ∧ k ≠ D + 1
  kept : Kept (fun _ => False) w W
theorem SqF.carry {q b : Nat} {w W W' : World} {B D : Nat} {pre : List RV2} {S : Nat → Prop} (h : SqF q b w W B D pre S) (hk : Kept (fun k => False ∨ k = D ∨ k = D + 1) W W') (hB : B = w.heap.size) (hD : B + 6 ≤ D) : SqF q b w W' B D pre S := by
  have no : ∀ k, k < D → ¬ (False ∨ k = D ∨ k = D + 1) := by rintro k hk (h | h | h) <;> first | exact h.elim | omega
  have no2 : ∀ k, D + 2 ≤ k → ¬ (False ∨ k = D ∨ k = D + 1) := by rintro k hk (h | h | h) <;> first | exact h.elim | omega
  obtain ⟨va, vb, h1, h2, h3, h4, h5⟩ := h.ab
  exact ⟨hk.heap h.b0 (no _ (by omega)), hk.heap h.b1 (no _ (by omega)), hk.heap h.b2 (no _ (by omega)), hk.heap h.b3 (no _ (by omega)),
    ⟨va, vb, hk.heap h1 (no _ (by omega)), own_kept h2 hk fun k e => no2 k (own_ge h2 k e), hk.heap h3 (no _ (by omega)), own_kept h4 hk fun k e => no2 k (own_ge h4 k e), h5⟩,
    fun x hx => own_kept (h.own x hx) hk fun k e e2 => (by have h9 := h.no x hx k e; rcases e2 with e2 | e2 | e2; exact e2; exact h9.1 e2; exact h9.2 e2), h.no, h.kept.trans hk fun i hi hm => absurd hm (no i (by omega))⟩
theorem grew_blk {w w' : World} {v v' : Value} {n : Nat} (h : Grew w w' v v') (hn : n ≤ w.heap.size) : ∀ q, v'.ownBlock = some q → v.ownBlock = some q ∨ n ≤ q := fun q e => by
  rcases h with ⟨e1, -⟩ | ⟨e1, -⟩
  · exact .inl (e1 ▸ e)
  · rw [e1] at e; injection e with e; exact .inr (by omega)
theorem own_noLoop {W : World} {base e s n D : Nat} {u : Value} {xs : List Value} {r : Loop} (h : W.ownsRow base e s u n xs) (h1 : W.heap[D]? = some (.deferred (some []))) (h2 : W.heap[D + 1]? = some (.loop r)) : ∀ k, u.ownBlock = some k → k ≠ D ∧ k ≠ D + 1 := fun k e2 => by
  rcases h.2 with ⟨hv, _⟩ | ⟨g, _, _, hv, _, hh, _⟩
  · rw [hv] at e2; cases e2
  · rw [hv] at e2
    have hg : g = k := by simpa [Value.ownBlock] using e2
    subst hg
    constructor
    · rintro rfl; rw [h1] at hh; cases hh
    · rintro rfl; rw [h2] at hh; cases hh
theorem own_noCell {W : World} {base e s n b : Nat} {u : Value} {xs : List Value} {cs : Array Value} {T : TypeId} {m : Nat × Nat} (h : W.ownsRow base e s u n xs) (hb : W.heap[b]? = some (.cells cs T m)) (he : e ≠ T) : u.ownBlock ≠ some b := fun e2 => by
  rcases h.2 with ⟨hv, _⟩ | ⟨g, _, _, hv, _, hh, _⟩
  · rw [hv] at e2; cases e2
  · rw [hv] at e2
    have hg : g = b := by simpa [Value.ownBlock] using e2
    subst hg
    rw [hb] at hh
    simp only [Option.some.injEq, Obj.cells.injEq] at hh
    exact he hh.2.1.symm
theorem SqF.next {q b k : Nat} {w W V W9 : World} {B D : Nat} {pre : List RV2} {S : Nat → Prop} {x : List UInt8 × Nat} {v va vb va' vb' : Value} (h : SqF q b w W B D pre S) (hk : k = pre.length) (hB : B = w.heap.size) (hD : B + 6 ≤ D)
    (h1 : Boxed W (B + 4) 51 va) (h2 : W.ownsRow (D + 2) 27 1 va k (pre.map fun x => uV x.1.2)) (h3 : Boxed W (B + 5) 28 vb) (h4 : W.ownsRow (D + 2) 30 1 vb k (pre.map Prod.snd))
    (hS : S = fun k => k = B + 4 ∨ k = B + 5 ∨ va.ownBlock = some k ∨ vb.ownBlock = some k) (hov : W.ownsRow b 5 1 v x.1.length (x.1.map bv)) (hno : ∀ k, v.ownBlock = some k → k ≠ D ∧ k ≠ D + 1)
    (kw : Kept (fun q => va.ownBlock = some q ∨ vb.ownBlock = some q) W V) (n3 : ∀ q, va'.ownBlock = some q → va.ownBlock = some q ∨ W.heap.size ≤ q) (n7 : ∀ q, vb'.ownBlock = some q → vb.ownBlock = some q ∨ W.heap.size ≤ q)
    (ho3 : V.ownsRow (D + 2) 27 1 va' (k + 1) ((pre.map fun x => uV x.1.2) ++ [.int .u64 (x.2 : Nat)])) (ho7 : V.ownsRow (D + 2) 30 1 vb' (k + 1) (pre.map Prod.snd ++ [v]))
    (hW9 : W9 = (V.setCell ⟨B + 4, 0, none⟩ va').setCell ⟨B + 5, 0, none⟩ vb') :
    (∃ S', SqF q b w W9 B D (pre ++ [(x, v)]) S' ∧ Kept S W W9 ∧ ∀ k, S' k → S k ∨ W.heap.size ≤ k) ∧ W9.cell? ⟨B + 4, 0, none⟩ = some va' ∧ W9.cell? ⟨B, 0, none⟩ = some (.int .i64 (q : Nat)) := by
  have k4 := kF V (B + 4) 0 va'
  have k5 := kF (V.setCell ⟨B + 4, 0, none⟩ va') (B + 5) 0 vb'
  rw [← hW9] at k5
  have na : ∀ i, i < D → ¬ (va.ownBlock = some i ∨ vb.ownBlock = some i) := fun i hi e => e.elim (fun e => by have := own_ge h2 i e; omega) (fun e => by have := own_ge h4 i e; omega)
  have kk : Kept (fun i => i = B + 4 ∨ i = B + 5 ∨ va.ownBlock = some i ∨ vb.ownBlock = some i) W W9 :=
    ((kw.mono fun i _ e => .inr (.inr e)).trans' (k4.mono fun i _ e => .inl e)).trans' (k5.mono fun i _ e => .inr (.inl e))
  have nn : ∀ i, i < B + 4 → ¬ (i = B + 4 ∨ i = B + 5 ∨ va.ownBlock = some i ∨ vb.ownBlock = some i) := fun i hi e => by
    rcases e with e | e | e
    · omega
    · omega
    · exact na i (by omega) e
  have up : ∀ {u : Value} {n : Nat} {xs : List Value}, W.ownsRow b 5 1 u n xs → W9.ownsRow b 5 1 u n xs := fun {u n xs} hu => own_kept hu kk fun i e e2 => by
    rcases e2 with e2 | e2 | e2 | e2
    · exact own_noCell hu h1 (by decide) (e2 ▸ e)
    · exact own_noCell hu h3 (by decide) (e2 ▸ e)
    · exact own_two (by decide) hu h2 i e e2
    · exact own_two (by decide) hu h4 i e e2
  have b4 : Boxed W9 (B + 4) 51 va' := k5.heap ((show Boxed V (B + 4) 51 va from kw.heap h1 (na _ (by omega))).set va') (by omega)
  have b5 : Boxed W9 (B + 5) 28 vb' := by
    rw [hW9]
    exact (show Boxed _ (B + 5) 28 vb from k4.heap (kw.heap h3 (na _ (by omega))) (by omega)).set vb'
  have up2 : ∀ {e n : Nat} {u : Value} {xs : List Value}, V.ownsRow (D + 2) e 1 u n xs → W9.ownsRow (D + 2) e 1 u n xs := fun {e n u xs} hu =>
    own_kept (own_kept hu k4 fun i e1 e2 => by have := own_ge hu i e1; omega) k5 fun i e1 e2 => by have := own_ge hu i e1; omega
  have b0 := kk.heap h.b0 (nn _ (by omega))
  refine ⟨⟨_, ⟨b0, kk.heap h.b1 (nn _ (by omega)), kk.heap h.b2 (nn _ (by omega)), kk.heap h.b3 (nn _ (by omega)), ⟨va', vb', b4, ?_, b5, ?_, rfl⟩, ?_, ?_, h.kept.trans kk fun i hi e => absurd e (nn i (by omega))⟩, by rw [hS]; exact kk, ?_⟩, b4.cell, Boxed.cell b0⟩
  · have := up2 ho3
    rw [List.length_append, List.length_singleton, ← hk, List.map_append]
    exact this
  · have := up2 ho7
    rw [List.length_append, List.length_singleton, ← hk, List.map_append]
    exact this
  · intro y hy
    rcases List.mem_append.1 hy with hy | hy
    · exact up (h.own y hy)
    · rw [List.mem_singleton.1 hy]; exact up hov
  · intro y hy
    rcases List.mem_append.1 hy with hy | hy
    · exact h.no y hy
    · rw [List.mem_singleton.1 hy]; exact hno
  · intro i hi
    rw [hS]
    rcases hi with hi | hi | hi | hi
    · exact .inl (.inl hi)
    · exact .inl (.inr (.inl hi))
    · exact (n3 i hi).imp (fun e => .inr (.inr (.inl e))) id
    · exact (n7 i hi).imp (fun e => .inr (.inr (.inr e))) id
theorem results_cells3 {P : Program} {fn : Func} {p q r : Tmp} {ty ty' ty2 : TypeId} (h : fn.results = #[.cell p ty, .cell q ty', .cell r ty2]) (hag : ∀ w, (isAgg ty).run P w = .ok false w) (hag' : ∀ w, (isAgg ty').run P w = .ok false w) (hag2 : ∀ w, (isAgg ty2).run P w = .ok false w) {tmps : Array Value} {a b c : Addr}
    (hp : tmps.getD p undef = .pointer (some a)) (hq : tmps.getD q undef = .pointer (some b)) (hr : tmps.getD r undef = .pointer (some c)) {w : World} {v u z : Value} (hc : w.cell? a = some v) (hd : w.cell? b = some u) (he : w.cell? c = some z) :
    (results fn tmps).run P w = .ok (.tuple #[v, u, z]) w := by
  have hp' : tmps[p]?.getD undef = .pointer (some a) := by simpa using hp
  have hq' : tmps[q]?.getD undef = .pointer (some b) := by simpa using hq
  have hr' : tmps[r]?.getD undef = .pointer (some c) := by simpa using hr
  simp [results, h, hp', hq', hr', asAddr, loadVar, hag, hag', hag2, go_sem, hc, hd, he]
theorem seq2_done {W W3 : World} {B : Nat} {T1 T2 T3 : TypeId} {u1 u2 u3 v1 v2 v3 : Value} (h1 : Boxed W (B + 1) T1 u1) (h2 : Boxed W (B + 2) T2 u2) (h3 : Boxed W (B + 3) T3 u3)
    (h : W3 = (((W.setCell ⟨B + 1, 0, none⟩ v1).setCell ⟨B + 2, 0, none⟩ v2).setCell ⟨B + 3, 0, none⟩ v3).drew) :
    Boxed W3 (B + 1) T1 v1 ∧ Boxed W3 (B + 2) T2 v2 ∧ Boxed W3 (B + 3) T3 v3 ∧ Kept (fun i => i = B + 1 ∨ i = B + 2 ∨ i = B + 3) W W3 := by
  have k1 := kF W (B + 1) 0 v1
  have k2 := kF (W.setCell ⟨B + 1, 0, none⟩ v1) (B + 2) 0 v2
  have k3 := (kF ((W.setCell ⟨B + 1, 0, none⟩ v1).setCell ⟨B + 2, 0, none⟩ v2) (B + 3) 0 v3).drew
  rw [← h] at k3
  refine ⟨k3.heap (k2.heap (h1.set v1) (by omega)) (by omega), k3.heap ((show Boxed _ (B + 2) T2 u2 from k1.heap h2 (by omega)).set v2) (by omega), ?_, ?_⟩
  · rw [h]
    exact (show Boxed _ (B + 3) T3 u3 from k2.heap (k1.heap h3 (by omega)) (by omega)).set v3
  · exact ((k1.mono fun i _ e => .inl e).trans' (k2.mono fun i _ e => .inr (.inl e))).trans' (k3.mono fun i _ e => .inr (.inr e))
/-- What Seq2 hands back. -/
def Seq2Post (w : World) (b : Nat) (xs : List (List UInt8 × Nat)) (e : Ending) (w' : World) : Prop :=
  ∃ va vb, ∃ ys : List RV2, e = .returned (.tuple #[va, vb, .bool true]) ∧ ys.map Prod.fst = xs ∧ w'.ownsRow w.heap.size 27 1 va xs.length (xs.map fun x => uV x.2) ∧ w'.ownsRow w.heap.size 30 1 vb xs.length (ys.map Prod.snd) ∧ (∀ x ∈ ys, w'.ownsRow b 5 1 x.2 x.1.1.length (x.1.1.map bv)) ∧ Kept (fun _ => False) w w'
set_option maxRecDepth 100000 in
set_option maxHeartbeats 8000000 in
theorem seq2_any (q b : Nat) (w : World) (lb : Array Value) (rd : Nat → Prop) (xs : List (List UInt8 × Nat)) (hit : IterF Tryz.prog 72 lb encR (okR b) (fun _ => False) rd xs w) (hrd : ∀ k, rd k → k < w.heap.size) (hl : xs.length ≤ q) (hq9 : q ≤ 900000) (hbw : b ≤ w.heap.size) :
    Calls Tryz.prog 55 #[.func (.func 72) #[] lb, .int .i64 (q : Nat)] w (Seq2Post w b xs) := by
  have HIt := Lib.hid hit
  have HRd := Lib.hid hrd
  have Hl := Lib.hid hl
  have Hbw := Lib.hid hbw
  clear hit hrd hl hbw
  have hne : ∀ W, (binOp .eql 109 (.func (.func 72) #[] lb) .nilFunc).run Tryz.prog W = .ok (.bool false) W := fun W => by kernel_rfl
  refine calls_of_marks Tryz.func55 rfl ?_
  simp only [Tryz.ntmps55, List.size_toArray, List.length_cons, List.length_nil, Nat.reduceAdd, Nat.reduceSub, Array.replicate_succ, Array.replicate_zero, List.push_toArray, List.append_toArray, List.nil_append, List.cons_append]
  go_wp2_with fail
  obtain ⟨W0, hW0⟩ : ∃ W0, W0 = (((((w.alloc (.cells #[.int .i64 (q : Nat)] 3)).alloc (.cells #[.slice none 0 0] 51)).alloc (.cells #[.slice none 0 0] 28)).alloc (.cells #[.bool false] 4)).alloc (.cells #[.slice none 0 0] 51)).alloc (.cells #[.slice none 0 0] 28) := ⟨_, rfl⟩
  rw [← hW0]
  obtain ⟨B, hB⟩ : ∃ B, B = w.heap.size := ⟨_, rfl⟩
  have hsz : W0.heap.size = B + 6 := by rw [hW0, hB]; simp
  have hkp : Kept (fun _ => False) w W0 := by rw [hW0]; exact ((((((Kept.refl _ w).alloc _).alloc _).alloc _).alloc _).alloc _).alloc _
  have hbox : Boxed W0 B 3 (.int .i64 (q : Nat)) ∧ Boxed W0 (B + 1) 51 (.slice none 0 0) ∧ Boxed W0 (B + 2) 28 (.slice none 0 0) ∧ Boxed W0 (B + 3) 4 (.bool false) ∧ Boxed W0 (B + 4) 51 (.slice none 0 0) ∧ Boxed W0 (B + 5) 28 (.slice none 0 0) := by
    have step : ∀ (W : World) (n : Nat) (T : TypeId) (v : Value), W.heap.size = n → Boxed (W.alloc (.cells #[v] T)) n T v := fun W n T v h => by rw [← h]; exact Boxed.new W T v
    rw [hW0, hB]
    refine ⟨(((((step w _ _ _ rfl).alloc _).alloc _).alloc _).alloc _).alloc _, ((((step _ _ _ _ (by simp)).alloc _).alloc _).alloc _).alloc _, (((step _ _ _ _ (by simp)).alloc _).alloc _).alloc _, ((step _ _ _ _ (by simp)).alloc _).alloc _, (step _ _ _ _ (by simp)).alloc _, step _ _ _ _ (by simp)⟩
  clear hW0
  rw [← hB]
  have HBw := Lib.hid hB
  clear hB
  obtain ⟨h0, h1, h2, h3, h4, h5⟩ := hbox
  have Hsz := Lib.hid hsz
  have hi0 : SqF q b w W0 B W0.heap.size [] (fun k => k = B + 4 ∨ k = B + 5 ∨ (Value.slice none 0 0).ownBlock = some k ∨ (Value.slice none 0 0).ownBlock = some k) := ⟨h0, h1, h2, h3, ⟨_, _, h4, World.ownsRow_nil _ _ _ _, h5, World.ownsRow_nil _ _ _ _, rfl⟩, (fun x hx => by cases hx), (fun x hx => by cases hx), hkp⟩
  have hit := HIt.out.later hkp
  have Hkp := Lib.hid hkp
  clear h0 h1 h2 h3 h4 h5 hkp hsz HIt
  refine wp_rangeF (gf := 72) rfl (enters_of Tryz.func72 (by kernel_rfl) rfl) hit (fun x v => rfl) (fun k h => h.elim) (fun k hk => by have := HRd.out k hk; have := Hkp.out.size; omega)
    (fun pre S W => SqF q b w W B W0.heap.size pre S)
    (fun c pre W => False) _
    (fun pre S A C h hk => h.carry hk HBw.out (by have := Hsz.out; omega))
    (fun c pre A C h hk => h.elim)
    (fun pre S A h k hk => by
      obtain ⟨va, vb, g1, g2, g3, g4, rfl⟩ := h.ab
      have hB := HBw.out
      have hs := Hsz.out
      have hk2 := h.kept.size
      rcases hk with rfl | rfl | e | e
      · exact ⟨(Array.getElem?_eq_some_iff.1 g1).1, fun h => by have := HRd.out _ h; omega, by omega, by omega⟩
      · exact ⟨(Array.getElem?_eq_some_iff.1 g3).1, fun h => by have := HRd.out _ h; omega, by omega, by omega⟩
      · have := own_ge g2 k e
        exact ⟨own_ltH g2 k e, fun h => by have := HRd.out _ h; omega, by omega, by omega⟩
      · have := own_ge g4 k e
        exact ⟨own_ltH g4 k e, fun h => by have := HRd.out _ h; omega, by omega, by omega⟩)
    hi0 (fun x v => { tmps := #[.func (.func 72) #[] lb, .int .i64 (q : Nat), undef, .pointer (some ⟨B, 0, none⟩), .pointer (some ⟨B + 1, 0, none⟩), .pointer (some ⟨B + 1 + 1, 0, none⟩), .pointer (some ⟨B + 1 + 1 + 1, 0, none⟩), .pointer (some ⟨B + 1 + 1 + 1 + 1, 0, none⟩), .pointer (some ⟨B + 1 + 1 + 1 + 1 + 1, 0, none⟩), .int .u64 (x.2 : Nat), v, .func (.func 72) #[] lb, .bool false, .func (.func 72) #[] lb, .int .u64 (x.2 : Nat), v, undef, undef, undef, undef, undef, undef, undef, undef, undef, undef, undef, undef, undef, undef], defers := [] }) ?assign ?body ?done ?stop
  case assign =>
    intro l x v W K hK
    unfold encR
    gi_wp2
    exact hK
  case body =>
    rintro l pre S x v post Wa W hxs hI hov hka ⟨rl, hrl⟩ hdl hsz2
    obtain ⟨va, vb, h1, h2, h3, h4, rfl⟩ := hI.ab
    obtain ⟨Aa, ca, rfl⟩ := own_slice h2
    obtain ⟨Ab, cb, rfl⟩ := own_slice h4
    obtain ⟨Av, cv, rfl⟩ := own_slice hov
    obtain ⟨k, hk⟩ : ∃ k, k = pre.length := ⟨_, rfl⟩
    rw [← hk] at h1 h2 h3 h4
    have hkl : k + 1 ≤ q := by have := congrArg List.length hxs; simp at this; have := Hl.out; omega
    have c0 := hI.b0.cell
    have c4 := h1.cell
    have f4 := h1.frozen
    have c5 := h3.cell
    have f5 := h3.frozen
    have HI := Lib.hid hI
    have H1 := Lib.hid h1
    have H2 := Lib.hid h2
    have H3 := Lib.hid h3
    have H4 := Lib.hid h4
    have Hk := Lib.hid hk
    have HOv := Lib.hid hov
    have HNo : Hid (∀ k, (Value.slice Av x.1.length cv).ownBlock = some k → k ≠ W0.heap.size ∧ k ≠ W0.heap.size + 1) := Lib.hid (own_noLoop hov hdl hrl)
    have HOw : Hid (W.ownsRow b 5 1 (.slice Av x.1.length cv) x.1.length (x.1.map bv)) := Lib.hid (own_kept hov hka fun k e e2 => (HNo.out k e).2 e2)
    have HKa := Lib.hid hka
    have Hrl := Lib.hid hrl
    have Hdl := Lib.hid hdl
    have HSz2 := Lib.hid hsz2
    have hk9 : ¬ (q : Int) < (k : Int) + 1 := by omega
    clear hI h1 h2 h3 h4 hk hov hka hrl hdl hsz2 hit hi0 hxs
    gi_upto_region 8 with fail
    have d4 : W.drew.cell? ⟨B + 1 + 1 + 1 + 1, 0, none⟩ = some (.slice Aa k ca) := c4
    have d5 : W.drew.cell? ⟨B + 1 + 1 + 1 + 1 + 1, 0, none⟩ = some (.slice Ab k cb) := c5
    refine wpIn_region_E (fun Wx => Wx.cell? ⟨B + 1 + 1 + 1 + 1, 0, none⟩ = some (.slice Aa k ca) ∧ Wx.cell? ⟨B + 1 + 1 + 1 + 1 + 1, 0, none⟩ = some (.slice Ab k cb)) (fun i => i == 8 || i == 9) (by kernel_rfl) (by kernel_rfl) (fun ⟨_, _, h⟩ => h) ?_
    refine wpAnyE_take (i := 0) (v := ?_) rfl (by kernel_rfl) (by kernel_rfl) (by kernel_rfl) (fun _ _ _ h => h) (by kernel_rfl) rfl (Or.inl ⟨by rfl, ?_⟩) ⟨d4, d5⟩ ?_
    rotate_left
    · (rintro Wx ⟨x4, x5⟩; go_simp; try with_reducible rfl)
    refine wpAnyE_take (i := 1) (v := ?_) rfl (by kernel_rfl) (by kernel_rfl) (by kernel_rfl) (fun _ _ _ h => h) (by kernel_rfl) rfl (Or.inl ⟨by rfl, ?_⟩) ⟨d4, d5⟩ ?_
    rotate_left
    · (rintro Wx ⟨x4, x5⟩; go_simp; try with_reducible rfl)
    refine wpAnyE_take (i := 4) (v := ?_) rfl (by kernel_rfl) (by kernel_rfl) (by kernel_rfl) (fun _ _ _ h => h) (by kernel_rfl) rfl (Or.inl ⟨by rfl, ?_⟩) ⟨d4, d5⟩ ?_
    rotate_left
    · (rintro Wx ⟨x4, x5⟩; go_simp; try with_reducible rfl)
    refine wpAnyE_take (i := 5) (v := ?_) rfl (by kernel_rfl) (by kernel_rfl) (by kernel_rfl) (fun _ _ _ h => h) (by kernel_rfl) rfl (Or.inl ⟨by rfl, ?_⟩) ⟨d4, d5⟩ ?_
    rotate_left
    · (rintro Wx ⟨x4, x5⟩; go_simp; try with_reducible rfl)
    have oa := H2.out
    have ob := H4.out
    have kw : Kept (fun q => (Value.slice Aa k ca).ownBlock = some q ∨ (Value.slice Ab k cb).ownBlock = some q) W W := Kept.refl _ W
    have na4 : ¬ (Value.slice Aa k ca).ownBlock = some (B + 1 + 1 + 1 + 1) := fun e => by have := own_ge oa _ e; have := Hsz.out; omega
    have na5 : ¬ (Value.slice Aa k ca).ownBlock = some (B + 1 + 1 + 1 + 1 + 1) := fun e => by have := own_ge oa _ e; have := Hsz.out; omega
    have nb4 : ¬ (Value.slice Ab k cb).ownBlock = some (B + 1 + 1 + 1 + 1) := fun e => by have := own_ge ob _ e; have := Hsz.out; omega
    have nb5 : ¬ (Value.slice Ab k cb).ownBlock = some (B + 1 + 1 + 1 + 1 + 1) := fun e => by have := own_ge ob _ e; have := Hsz.out; omega
    have fz4 : ∀ {X}, Kept (fun q => (Value.slice Aa k ca).ownBlock = some q ∨ (Value.slice Ab k cb).ownBlock = some q) W X → X.frozen? ⟨B + 1 + 1 + 1 + 1, 0, none⟩ = false := fun hX => (World.frozen?_of_block (hX.block _ (World.block_lt_of_cell? W _ c4) (fun e => e.elim na4 nb4))).trans f4
    have fz5 : ∀ {X}, Kept (fun q => (Value.slice Aa k ca).ownBlock = some q ∨ (Value.slice Ab k cb).ownBlock = some q) W X → X.frozen? ⟨B + 1 + 1 + 1 + 1 + 1, 0, none⟩ = false := fun hX => (World.frozen?_of_block (hX.block _ (World.block_lt_of_cell? W _ c5) (fun e => e.elim na5 nb5))).trans f5
    refine wpAnyE_ready (rs := [2, 6]) (by kernel_rfl) (by simp) ?_
    refine ReadyE.cons rfl (fun K hK => ?_) (ReadyE.cons rfl (fun K hK => ?_) ReadyE.nil)
    focus
      go_simp
      obtain ⟨b2, hb2⟩ : ∃ b2, b2 = W.heap.size := ⟨_, rfl⟩
      obtain ⟨V2, hV2⟩ : ∃ V2, V2 = (W.alloc (.cells #[.int .u64 (x.2 : Nat)] 27)).drew := ⟨_, rfl⟩
      have kV2 : Kept (fun _ => False) W V2 := by rw [hV2]; exact ((Kept.refl _ W).alloc _).drew
      have x2 : V2.heap[b2]? = some (.cells #[.int .u64 (x.2 : Nat)] 27 (0, 0)) := by rw [hV2, hb2]; exact heap_alloc_new W _
      rw [← hb2, ← hV2]
      have l2 : W.heap.size ≤ b2 := by rw [hb2]; exact kw.size
      clear hV2 hb2
      have e4 := kV2.cell c4 (by simp)
      have e5 := kV2.cell c5 (by simp)
      clear d4 d5
      have d4 := e4
      have d5 := e5
      clear e4 e5
      have pa := own_kept oa kV2 (by simp)
      clear oa
      have oa := pa
      clear pa
      have pb := own_kept ob kV2 (by simp)
      clear ob
      have ob := pb
      clear pb
      have kn := kw.trans' (kV2.mono fun q _ e => e.elim)
      clear kw
      have kw := kn
      clear kn kV2
      refine hK.out _ _ (fun _ => ⟨d4, d5⟩) ?_
      clear hK K
      refine wpAnyE_ready (rs := [3, 6]) (by kernel_rfl) (by simp) ?_
      refine ReadyE.cons rfl (fun K hK => ?_) (ReadyE.cons rfl (fun K hK => ?_) ReadyE.nil)
      focus
        have hcs3 : Cs V2 (some ⟨b2, 0, none⟩) [.int .u64 (x.2 : Nat)] := cs_one x2
        refine step_append_e elemU rfl _ _ rfl (W0.heap.size + 2) (.slice Aa k ca) k (pre.map fun x => uV x.1.2) rfl oa _ 1 1 [.int .u64 (x.2 : Nat)] rfl hcs3 rfl (by simp [Value.oneCell']) (fun e => by cases e) (by omega) (by have := kw.size; have := HSz2.out; omega) ?_
        intro v3 V3 ho3 hg3
        obtain ⟨A3, c3, rfl⟩ := own_slice ho3
        have N3 : Hid (∀ q, (Value.slice A3 (k + 1) c3).ownBlock = some q → (Value.slice Aa k ca).ownBlock = some q ∨ W.heap.size ≤ q) := Lib.hid (grew_blk hg3 kw.size)
        go_simp
        have kV3 : Kept (fun q => (Value.slice Aa k ca).ownBlock = some q) V2 V3 := hg3.kept
        have e4 := kV3.cell d4 na4
        have e5 := kV3.cell d5 na5
        clear d4 d5
        have d4 := e4
        have d5 := e5
        clear e4 e5
        have y2 := kV3.heap x2 (fun e => by have := own_ltH H2.out _ e; omega)
        clear x2
        have x2 := y2
        clear y2
        have pb := own_kept ob kV3 (fun q e e2 => own_two (by decide) ob oa q e e2)
        clear ob
        have ob := pb
        clear pb
        have kn := kw.trans' (kV3.mono fun q _ e => .inl e)
        clear kw
        have kw := kn
        clear kn kV3
        clear hcs3 hg3
        refine hK.out _ _ (fun _ => ⟨d4, d5⟩) ?_
        clear hK K
        refine wpAnyE_ready (rs := [6]) (by kernel_rfl) (by simp) ?_
        refine ReadyE.cons rfl (fun K hK => ?_) ReadyE.nil
        go_simp
        obtain ⟨b6, hb6⟩ : ∃ b6, b6 = V3.heap.size := ⟨_, rfl⟩
        obtain ⟨V4, hV4⟩ : ∃ V4, V4 = (V3.alloc (.cells #[.slice Av x.1.length cv] 30)) := ⟨_, rfl⟩
        have kV4 : Kept (fun _ => False) V3 V4 := by rw [hV4]; exact (Kept.refl _ V3).alloc _
        have x6 : V4.heap[b6]? = some (.cells #[.slice Av x.1.length cv] 30 (0, 0)) := by rw [hV4, hb6]; exact heap_alloc_new V3 _
        rw [← hb6, ← hV4]
        have l6 : W.heap.size ≤ b6 := by rw [hb6]; exact kw.size
        clear hV4 hb6
        have e4 := kV4.cell d4 (by simp)
        have e5 := kV4.cell d5 (by simp)
        clear d4 d5
        have d4 := e4
        have d5 := e5
        clear e4 e5
        have y2 := kV4.heap x2 (by simp)
        clear x2
        have x2 := y2
        clear y2
        have p3 := own_kept ho3 kV4 (by simp)
        clear ho3
        have ho3 := p3
        clear p3
        have pb := own_kept ob kV4 (by simp)
        clear ob
        have ob := pb
        clear pb
        have kn := kw.trans' (kV4.mono fun q _ e => e.elim)
        clear kw
        have kw := kn
        clear kn kV4
        refine hK.out _ _ (fun _ => ⟨d4, d5⟩) ?_
        clear hK K
        refine wpAnyE_ready (rs := [7]) (by kernel_rfl) (by simp) ?_
        refine ReadyE.cons rfl (fun K hK => ?_) ReadyE.nil
        have hcs7 : Cs V4 (some ⟨b6, 0, none⟩) [.slice Av x.1.length cv] := cs_one x6
        refine step_append_e elemBs rfl _ _ rfl (W0.heap.size + 2) (.slice Ab k cb) k (pre.map Prod.snd) rfl ob _ 1 1 [.slice Av x.1.length cv] rfl hcs7 rfl (by simp [Value.oneCell']) (fun e => by cases e) (by omega) (by have := kw.size; have := HSz2.out; omega) ?_
        intro v7 V5 ho7 hg7
        obtain ⟨A7, c7, rfl⟩ := own_slice ho7
        have N7 : Hid (∀ q, (Value.slice A7 (k + 1) c7).ownBlock = some q → (Value.slice Ab k cb).ownBlock = some q ∨ W.heap.size ≤ q) := Lib.hid (grew_blk hg7 kw.size)
        go_simp
        have kV5 : Kept (fun q => (Value.slice Ab k cb).ownBlock = some q) V4 V5 := hg7.kept
        have e4 := kV5.cell d4 nb4
        have e5 := kV5.cell d5 nb5
        clear d4 d5
        have d4 := e4
        have d5 := e5
        clear e4 e5
        have y2 := kV5.heap x2 (fun e => by have := own_ltH H4.out _ e; omega)
        clear x2
        have x2 := y2
        clear y2
        have y6 := kV5.heap x6 (fun e => by have := own_ltH H4.out _ e; omega)
        clear x6
        have x6 := y6
        clear y6
        have p3 := own_kept ho3 kV5 (fun q e e2 => own_two (by decide) ho3 ob q e e2)
        clear ho3
        have ho3 := p3
        clear p3
        have kn := kw.trans' (kV5.mono fun q _ e => .inr e)
        clear kw
        have kw := kn
        clear kn kV5
        clear hcs7 hg7
        refine hK.out _ _ (fun _ => ⟨d4, d5⟩) ?_
        clear hK K
        refine wpAnyE_ready (rs := [8]) (by kernel_rfl) (by simp) ?_
        refine ReadyE.cons rfl (fun K hK => ?_) ReadyE.nil
        have g4 : V5.frozen? ⟨B + 1 + 1 + 1 + 1, 0, none⟩ = false := fz4 kw
        go_simp
        obtain ⟨V6, hV6⟩ : ∃ V6, V6 = V5.setCell ⟨B + 1 + 1 + 1 + 1, 0, none⟩ (.slice A3 (k + 1) c3) := ⟨_, rfl⟩
        rw [← hV6]
        have e5 : V6.cell? ⟨B + 1 + 1 + 1 + 1 + 1, 0, none⟩ = some (.slice Ab k cb) := by rw [hV6]; exact (kF V5 (B + 1 + 1 + 1 + 1) 0 _).cell d5 (by simp)
        have g5 : V6.frozen? ⟨B + 1 + 1 + 1 + 1 + 1, 0, none⟩ = false := by rw [hV6]; exact (World.frozen?_of_block ((kF V5 (B + 1 + 1 + 1 + 1) 0 _).block (B + 1 + 1 + 1 + 1 + 1) (World.block_lt_of_cell? V5 _ d5) (by simp))).trans (fz5 kw)
        have HV6 := Lib.hid hV6
        clear d4 d5 g4 hV6
        refine hK.out _ _ (fun h => by cases h) ?_
        clear hK K
        refine wpAnyE_ready (rs := [9]) (by kernel_rfl) (by simp) ?_
        refine ReadyE.cons rfl (fun K hK => ?_) ReadyE.nil
        go_simp
        refine hK.out _ _ (fun h => by cases h) ?_
        clear hK K
        refine wpAnyE_done (by kernel_rfl) ?_ _
        obtain ⟨W9, hW9⟩ : ∃ W9, W9 = V6.setCell ⟨B + 1 + 1 + 1 + 1 + 1, 0, none⟩ (.slice A7 (k + 1) c7) := ⟨_, rfl⟩
        rw [← hW9]
        rw [HV6.out] at hW9
        have HN := Lib.hid (HI.out.next (x := x) Hk.out HBw.out (by have := Hsz.out; omega) H1.out H2.out H3.out H4.out (by rw [Hk.out]) HOw.out HNo.out kw N3.out N7.out ho3 ho7 hW9)
        have r4 := HN.out.2.1
        have r0 := HN.out.2.2
        clear hW9 ho3 ho7 kw x2 x6 l2 l6 e5 g5
        gi_wp2
        exact HN.out.1
      focus
        go_simp
        obtain ⟨b6, hb6⟩ : ∃ b6, b6 = V2.heap.size := ⟨_, rfl⟩
        obtain ⟨V3, hV3⟩ : ∃ V3, V3 = (V2.alloc (.cells #[.slice Av x.1.length cv] 30)) := ⟨_, rfl⟩
        have kV3 : Kept (fun _ => False) V2 V3 := by rw [hV3]; exact (Kept.refl _ V2).alloc _
        have x6 : V3.heap[b6]? = some (.cells #[.slice Av x.1.length cv] 30 (0, 0)) := by rw [hV3, hb6]; exact heap_alloc_new V2 _
        rw [← hb6, ← hV3]
        have l6 : W.heap.size ≤ b6 := by rw [hb6]; exact kw.size
        clear hV3 hb6
        have e4 := kV3.cell d4 (by simp)
        have e5 := kV3.cell d5 (by simp)
        clear d4 d5
        have d4 := e4
        have d5 := e5
        clear e4 e5
        have y2 := kV3.heap x2 (by simp)
        clear x2
        have x2 := y2
        clear y2
        have pa := own_kept oa kV3 (by simp)
        clear oa
        have oa := pa
        clear pa
        have pb := own_kept ob kV3 (by simp)
        clear ob
        have ob := pb
        clear pb
        have kn := kw.trans' (kV3.mono fun q _ e => e.elim)
        clear kw
        have kw := kn
        clear kn kV3
        refine hK.out _ _ (fun _ => ⟨d4, d5⟩) ?_
        clear hK K
        refine wpAnyE_ready (rs := [3]) (by kernel_rfl) (by simp) ?_
        refine ReadyE.cons rfl (fun K hK => ?_) ReadyE.nil
        have hcs3 : Cs V3 (some ⟨b2, 0, none⟩) [.int .u64 (x.2 : Nat)] := cs_one x2
        refine step_append_e elemU rfl _ _ rfl (W0.heap.size + 2) (.slice Aa k ca) k (pre.map fun x => uV x.1.2) rfl oa _ 1 1 [.int .u64 (x.2 : Nat)] rfl hcs3 rfl (by simp [Value.oneCell']) (fun e => by cases e) (by omega) (by have := kw.size; have := HSz2.out; omega) ?_
        intro v3 V4 ho3 hg3
        obtain ⟨A3, c3, rfl⟩ := own_slice ho3
        have N3 : Hid (∀ q, (Value.slice A3 (k + 1) c3).ownBlock = some q → (Value.slice Aa k ca).ownBlock = some q ∨ W.heap.size ≤ q) := Lib.hid (grew_blk hg3 kw.size)
        go_simp
        have kV4 : Kept (fun q => (Value.slice Aa k ca).ownBlock = some q) V3 V4 := hg3.kept
        have e4 := kV4.cell d4 na4
        have e5 := kV4.cell d5 na5
        clear d4 d5
        have d4 := e4
        have d5 := e5
        clear e4 e5
        have y2 := kV4.heap x2 (fun e => by have := own_ltH H2.out _ e; omega)
        clear x2
        have x2 := y2
        clear y2
        have y6 := kV4.heap x6 (fun e => by have := own_ltH H2.out _ e; omega)
        clear x6
        have x6 := y6
        clear y6
        have pb := own_kept ob kV4 (fun q e e2 => own_two (by decide) ob oa q e e2)
        clear ob
        have ob := pb
        clear pb
        have kn := kw.trans' (kV4.mono fun q _ e => .inl e)
        clear kw
        have kw := kn
        clear kn kV4
        clear hcs3 hg3
        refine hK.out _ _ (fun _ => ⟨d4, d5⟩) ?_
        clear hK K
        refine wpAnyE_ready (rs := [7]) (by kernel_rfl) (by simp) ?_
        refine ReadyE.cons rfl (fun K hK => ?_) ReadyE.nil
        have hcs7 : Cs V4 (some ⟨b6, 0, none⟩) [.slice Av x.1.length cv] := cs_one x6
        refine step_append_e elemBs rfl _ _ rfl (W0.heap.size + 2) (.slice Ab k cb) k (pre.map Prod.snd) rfl ob _ 1 1 [.slice Av x.1.length cv] rfl hcs7 rfl (by simp [Value.oneCell']) (fun e => by cases e) (by omega) (by have := kw.size; have := HSz2.out; omega) ?_
        intro v7 V5 ho7 hg7
        obtain ⟨A7, c7, rfl⟩ := own_slice ho7
        have N7 : Hid (∀ q, (Value.slice A7 (k + 1) c7).ownBlock = some q → (Value.slice Ab k cb).ownBlock = some q ∨ W.heap.size ≤ q) := Lib.hid (grew_blk hg7 kw.size)
        go_simp
        have kV5 : Kept (fun q => (Value.slice Ab k cb).ownBlock = some q) V4 V5 := hg7.kept
        have e4 := kV5.cell d4 nb4
        have e5 := kV5.cell d5 nb5
        clear d4 d5
        have d4 := e4
        have d5 := e5
        clear e4 e5
        have y2 := kV5.heap x2 (fun e => by have := own_ltH H4.out _ e; omega)
        clear x2
        have x2 := y2
        clear y2
        have y6 := kV5.heap x6 (fun e => by have := own_ltH H4.out _ e; omega)
        clear x6
        have x6 := y6
        clear y6
        have p3 := own_kept ho3 kV5 (fun q e e2 => own_two (by decide) ho3 ob q e e2)
        clear ho3
        have ho3 := p3
        clear p3
        have kn := kw.trans' (kV5.mono fun q _ e => .inr e)
        clear kw
        have kw := kn
        clear kn kV5
        clear hcs7 hg7
        refine hK.out _ _ (fun _ => ⟨d4, d5⟩) ?_
        clear hK K
        refine wpAnyE_ready (rs := [8]) (by kernel_rfl) (by simp) ?_
        refine ReadyE.cons rfl (fun K hK => ?_) ReadyE.nil
        have g4 : V5.frozen? ⟨B + 1 + 1 + 1 + 1, 0, none⟩ = false := fz4 kw
        go_simp
        obtain ⟨V6, hV6⟩ : ∃ V6, V6 = V5.setCell ⟨B + 1 + 1 + 1 + 1, 0, none⟩ (.slice A3 (k + 1) c3) := ⟨_, rfl⟩
        rw [← hV6]
        have e5 : V6.cell? ⟨B + 1 + 1 + 1 + 1 + 1, 0, none⟩ = some (.slice Ab k cb) := by rw [hV6]; exact (kF V5 (B + 1 + 1 + 1 + 1) 0 _).cell d5 (by simp)
        have g5 : V6.frozen? ⟨B + 1 + 1 + 1 + 1 + 1, 0, none⟩ = false := by rw [hV6]; exact (World.frozen?_of_block ((kF V5 (B + 1 + 1 + 1 + 1) 0 _).block (B + 1 + 1 + 1 + 1 + 1) (World.block_lt_of_cell? V5 _ d5) (by simp))).trans (fz5 kw)
        have HV6 := Lib.hid hV6
        clear d4 d5 g4 hV6
        refine hK.out _ _ (fun h => by cases h) ?_
        clear hK K
        refine wpAnyE_ready (rs := [9]) (by kernel_rfl) (by simp) ?_
        refine ReadyE.cons rfl (fun K hK => ?_) ReadyE.nil
        go_simp
        refine hK.out _ _ (fun h => by cases h) ?_
        clear hK K
        refine wpAnyE_done (by kernel_rfl) ?_ _
        obtain ⟨W9, hW9⟩ : ∃ W9, W9 = V6.setCell ⟨B + 1 + 1 + 1 + 1 + 1, 0, none⟩ (.slice A7 (k + 1) c7) := ⟨_, rfl⟩
        rw [← hW9]
        rw [HV6.out] at hW9
        have HN := Lib.hid (HI.out.next (x := x) Hk.out HBw.out (by have := Hsz.out; omega) H1.out H2.out H3.out H4.out (by rw [Hk.out]) HOw.out HNo.out kw N3.out N7.out ho3 ho7 hW9)
        have r4 := HN.out.2.1
        have r0 := HN.out.2.2
        clear hW9 ho3 ho7 kw x2 x6 l2 l6 e5 g5
        gi_wp2
        exact HN.out.1
    focus
      go_simp
      obtain ⟨b6, hb6⟩ : ∃ b6, b6 = W.heap.size := ⟨_, rfl⟩
      obtain ⟨V2, hV2⟩ : ∃ V2, V2 = (W.alloc (.cells #[.slice Av x.1.length cv] 30)).drew := ⟨_, rfl⟩
      have kV2 : Kept (fun _ => False) W V2 := by rw [hV2]; exact ((Kept.refl _ W).alloc _).drew
      have x6 : V2.heap[b6]? = some (.cells #[.slice Av x.1.length cv] 30 (0, 0)) := by rw [hV2, hb6]; exact heap_alloc_new W _
      rw [← hb6, ← hV2]
      have l6 : W.heap.size ≤ b6 := by rw [hb6]; exact kw.size
      clear hV2 hb6
      have e4 := kV2.cell c4 (by simp)
      have e5 := kV2.cell c5 (by simp)
      clear d4 d5
      have d4 := e4
      have d5 := e5
      clear e4 e5
      have pa := own_kept oa kV2 (by simp)
      clear oa
      have oa := pa
      clear pa
      have pb := own_kept ob kV2 (by simp)
      clear ob
      have ob := pb
      clear pb
      have kn := kw.trans' (kV2.mono fun q _ e => e.elim)
      clear kw
      have kw := kn
      clear kn kV2
      refine hK.out _ _ (fun _ => ⟨d4, d5⟩) ?_
      clear hK K
      refine wpAnyE_ready (rs := [2]) (by kernel_rfl) (by simp) ?_
      refine ReadyE.cons rfl (fun K hK => ?_) ReadyE.nil
      go_simp
      obtain ⟨b2, hb2⟩ : ∃ b2, b2 = V2.heap.size := ⟨_, rfl⟩
      obtain ⟨V3, hV3⟩ : ∃ V3, V3 = (V2.alloc (.cells #[.int .u64 (x.2 : Nat)] 27)) := ⟨_, rfl⟩
      have kV3 : Kept (fun _ => False) V2 V3 := by rw [hV3]; exact (Kept.refl _ V2).alloc _
      have x2 : V3.heap[b2]? = some (.cells #[.int .u64 (x.2 : Nat)] 27 (0, 0)) := by rw [hV3, hb2]; exact heap_alloc_new V2 _
      rw [← hb2, ← hV3]
      have l2 : W.heap.size ≤ b2 := by rw [hb2]; exact kw.size
      clear hV3 hb2
      have e4 := kV3.cell d4 (by simp)
      have e5 := kV3.cell d5 (by simp)
      clear d4 d5
      have d4 := e4
      have d5 := e5
      clear e4 e5
      have y6 := kV3.heap x6 (by simp)
      clear x6
      have x6 := y6
      clear y6
      have pa := own_kept oa kV3 (by simp)
      clear oa
      have oa := pa
      clear pa
      have pb := own_kept ob kV3 (by simp)
      clear ob
      have ob := pb
      clear pb
      have kn := kw.trans' (kV3.mono fun q _ e => e.elim)
      clear kw
      have kw := kn
      clear kn kV3
      refine hK.out _ _ (fun _ => ⟨d4, d5⟩) ?_
      clear hK K
      refine wpAnyE_ready (rs := [3]) (by kernel_rfl) (by simp) ?_
      refine ReadyE.cons rfl (fun K hK => ?_) ReadyE.nil
      have hcs3 : Cs V3 (some ⟨b2, 0, none⟩) [.int .u64 (x.2 : Nat)] := cs_one x2
      refine step_append_e elemU rfl _ _ rfl (W0.heap.size + 2) (.slice Aa k ca) k (pre.map fun x => uV x.1.2) rfl oa _ 1 1 [.int .u64 (x.2 : Nat)] rfl hcs3 rfl (by simp [Value.oneCell']) (fun e => by cases e) (by omega) (by have := kw.size; have := HSz2.out; omega) ?_
      intro v3 V4 ho3 hg3
      obtain ⟨A3, c3, rfl⟩ := own_slice ho3
      have N3 : Hid (∀ q, (Value.slice A3 (k + 1) c3).ownBlock = some q → (Value.slice Aa k ca).ownBlock = some q ∨ W.heap.size ≤ q) := Lib.hid (grew_blk hg3 kw.size)
      go_simp
      have kV4 : Kept (fun q => (Value.slice Aa k ca).ownBlock = some q) V3 V4 := hg3.kept
      have e4 := kV4.cell d4 na4
      have e5 := kV4.cell d5 na5
      clear d4 d5
      have d4 := e4
      have d5 := e5
      clear e4 e5
      have y2 := kV4.heap x2 (fun e => by have := own_ltH H2.out _ e; omega)
      clear x2
      have x2 := y2
      clear y2
      have y6 := kV4.heap x6 (fun e => by have := own_ltH H2.out _ e; omega)
      clear x6
      have x6 := y6
      clear y6
      have pb := own_kept ob kV4 (fun q e e2 => own_two (by decide) ob oa q e e2)
      clear ob
      have ob := pb
      clear pb
      have kn := kw.trans' (kV4.mono fun q _ e => .inl e)
      clear kw
      have kw := kn
      clear kn kV4
      clear hcs3 hg3
      refine hK.out _ _ (fun _ => ⟨d4, d5⟩) ?_
      clear hK K
      refine wpAnyE_ready (rs := [7]) (by kernel_rfl) (by simp) ?_
      refine ReadyE.cons rfl (fun K hK => ?_) ReadyE.nil
      have hcs7 : Cs V4 (some ⟨b6, 0, none⟩) [.slice Av x.1.length cv] := cs_one x6
      refine step_append_e elemBs rfl _ _ rfl (W0.heap.size + 2) (.slice Ab k cb) k (pre.map Prod.snd) rfl ob _ 1 1 [.slice Av x.1.length cv] rfl hcs7 rfl (by simp [Value.oneCell']) (fun e => by cases e) (by omega) (by have := kw.size; have := HSz2.out; omega) ?_
      intro v7 V5 ho7 hg7
      obtain ⟨A7, c7, rfl⟩ := own_slice ho7
      have N7 : Hid (∀ q, (Value.slice A7 (k + 1) c7).ownBlock = some q → (Value.slice Ab k cb).ownBlock = some q ∨ W.heap.size ≤ q) := Lib.hid (grew_blk hg7 kw.size)
      go_simp
      have kV5 : Kept (fun q => (Value.slice Ab k cb).ownBlock = some q) V4 V5 := hg7.kept
      have e4 := kV5.cell d4 nb4
      have e5 := kV5.cell d5 nb5
      clear d4 d5
      have d4 := e4
      have d5 := e5
      clear e4 e5
      have y2 := kV5.heap x2 (fun e => by have := own_ltH H4.out _ e; omega)
      clear x2
      have x2 := y2
      clear y2
      have y6 := kV5.heap x6 (fun e => by have := own_ltH H4.out _ e; omega)
      clear x6
      have x6 := y6
      clear y6
      have p3 := own_kept ho3 kV5 (fun q e e2 => own_two (by decide) ho3 ob q e e2)
      clear ho3
      have ho3 := p3
      clear p3
      have kn := kw.trans' (kV5.mono fun q _ e => .inr e)
      clear kw
      have kw := kn
      clear kn kV5
      clear hcs7 hg7
      refine hK.out _ _ (fun _ => ⟨d4, d5⟩) ?_
      clear hK K
      refine wpAnyE_ready (rs := [8]) (by kernel_rfl) (by simp) ?_
      refine ReadyE.cons rfl (fun K hK => ?_) ReadyE.nil
      have g4 : V5.frozen? ⟨B + 1 + 1 + 1 + 1, 0, none⟩ = false := fz4 kw
      go_simp
      obtain ⟨V6, hV6⟩ : ∃ V6, V6 = V5.setCell ⟨B + 1 + 1 + 1 + 1, 0, none⟩ (.slice A3 (k + 1) c3) := ⟨_, rfl⟩
      rw [← hV6]
      have e5 : V6.cell? ⟨B + 1 + 1 + 1 + 1 + 1, 0, none⟩ = some (.slice Ab k cb) := by rw [hV6]; exact (kF V5 (B + 1 + 1 + 1 + 1) 0 _).cell d5 (by simp)
      have g5 : V6.frozen? ⟨B + 1 + 1 + 1 + 1 + 1, 0, none⟩ = false := by rw [hV6]; exact (World.frozen?_of_block ((kF V5 (B + 1 + 1 + 1 + 1) 0 _).block (B + 1 + 1 + 1 + 1 + 1) (World.block_lt_of_cell? V5 _ d5) (by simp))).trans (fz5 kw)
      have HV6 := Lib.hid hV6
      clear d4 d5 g4 hV6
      refine hK.out _ _ (fun h => by cases h) ?_
      clear hK K
      refine wpAnyE_ready (rs := [9]) (by kernel_rfl) (by simp) ?_
      refine ReadyE.cons rfl (fun K hK => ?_) ReadyE.nil
      go_simp
      refine hK.out _ _ (fun h => by cases h) ?_
      clear hK K
      refine wpAnyE_done (by kernel_rfl) ?_ _
      obtain ⟨W9, hW9⟩ : ∃ W9, W9 = V6.setCell ⟨B + 1 + 1 + 1 + 1 + 1, 0, none⟩ (.slice A7 (k + 1) c7) := ⟨_, rfl⟩
      rw [← hW9]
      rw [HV6.out] at hW9
      have HN := Lib.hid (HI.out.next (x := x) Hk.out HBw.out (by have := Hsz.out; omega) H1.out H2.out H3.out H4.out (by rw [Hk.out]) HOw.out HNo.out kw N3.out N7.out ho3 ho7 hW9)
      have r4 := HN.out.2.1
      have r0 := HN.out.2.2
      clear hW9 ho3 ho7 kw x2 x6 l2 l6 e5 g5
      gi_wp2
      exact HN.out.1
  case done =>
    rintro ys S W hys hI hD
    obtain ⟨va, vb, h1, h2, h3, h4, rfl⟩ := hI.ab
    obtain ⟨Aa, ca, rfl⟩ := own_slice h2
    obtain ⟨Ab, cb, rfl⟩ := own_slice h4
    obtain ⟨k, hk⟩ : ∃ k, k = ys.length := ⟨_, rfl⟩
    rw [← hk] at h1 h2 h3 h4
    have c1 := hI.b1.cell
    have c2 := hI.b2.cell
    have c3 := hI.b3.cell
    have c4 := h1.cell
    have c5 := h3.cell
    have f1 := hI.b1.frozen
    have f2 := hI.b2.frozen
    have f3 := hI.b3.frozen
    have HD := Lib.hid hD
    have HI := Lib.hid hI
    have H2 := Lib.hid h2
    have H4 := Lib.hid h4
    have Hk := Lib.hid hk
    have Hys := Lib.hid hys
    clear hI h1 h2 h3 h4 hk hD hit hi0 hys
    go_wp2_with fail
    go_region_law (fail)
    all_goals
      obtain ⟨W3, hW3⟩ : ∃ W3, W3 = (((W.setCell ⟨B + 1, 0, none⟩ (.slice Aa k ca)).setCell ⟨B + 1 + 1, 0, none⟩ (.slice Ab k cb)).setCell ⟨B + 1 + 1 + 1, 0, none⟩ (.bool true)).drew := ⟨_, rfl⟩
      rw [← hW3]
      have HX := Lib.hid (seq2_done HI.out.b1 HI.out.b2 HI.out.b3 hW3)
      clear hW3
      go_wp2
      have HBB := HBw.out
      have hW0 := Hsz.out
      refine leave_mark (HX.out.2.2.2.heap HD.out (by omega)) (results_cells3 rfl (fun w => by kernel_rfl) (fun w => by kernel_rfl) (fun w => by kernel_rfl) rfl rfl rfl (v := .slice Aa k ca) (u := .slice Ab k cb) (z := .bool true) ?_ ?_ ?_) ⟨_, _, ys, rfl, Hys.out, ?_, ?_, ?_, ?_⟩
      · exact Boxed.cell ((putObj_kept W3 W0.heap.size (.deferred none)).heap HX.out.1 (by omega))
      · exact Boxed.cell ((putObj_kept W3 W0.heap.size (.deferred none)).heap HX.out.2.1 (by omega))
      · exact Boxed.cell ((putObj_kept W3 W0.heap.size (.deferred none)).heap HX.out.2.2.1 (by omega))
      all_goals have hkk : Kept (fun i => (i = B + 1 ∨ i = B + 2 ∨ i = B + 3) ∨ i = W0.heap.size) W (W3.putObj W0.heap.size (.deferred none)) := (HX.out.2.2.2.mono fun i _ e => .inl e).trans' ((putObj_kept W3 W0.heap.size (.deferred none)).mono fun i _ e => .inr e)
      · have hl : xs.length = k := by rw [← Hys.out, List.length_map, Hk.out]
        have hx : xs.map (fun x => uV x.2) = ys.map fun x => uV x.1.2 := by rw [← Hys.out, List.map_map]; rfl
        rw [hl, hx]
        exact own_weak (by omega) (own_kept H2.out hkk fun i e e2 => by have := own_ge H2.out i e; omega)
      · have hl : xs.length = k := by rw [← Hys.out, List.length_map, Hk.out]
        rw [hl]
        exact own_weak (by omega) (own_kept H4.out hkk fun i e e2 => by have := own_ge H4.out i e; omega)
      · intro x hx
        refine own_kept (HI.out.own x hx) hkk fun i e e2 => ?_
        rcases e2 with (e2 | e2 | e2) | e2
        · exact own_noCell (HI.out.own x hx) HI.out.b1 (by decide) (e2 ▸ e)
        · exact own_noCell (HI.out.own x hx) HI.out.b2 (by decide) (e2 ▸ e)
        · exact own_noCell (HI.out.own x hx) HI.out.b3 (by decide) (e2 ▸ e)
        · exact (HI.out.no x hx i e).1 e2
      · exact HI.out.kept.trans hkk fun i hi e => by omega
  case stop =>
    rintro c pre W hpre h
    exact h.elim
end Go.Proofs.YtibalgfejfjndaaGreatDoor
end

/-! A log that is small: what Append wants, from few numbers; Append, told anew. -/
section
set_option linter.unusedVariables false
set_option linter.unusedSimpArgs false
namespace Go.Proofs.YtibalgfejfjndaaGreatDoor
open Go.RowKit

/-- Few records, all of them short. -/
structure Sml (G : List Prt) (N : Nat) : Prop where
  cont : Cont G
  nx : nxtP G ≤ N
  len : ∀ p ∈ G, ∀ b ∈ p.2, b.length ≤ 2000
theorem Cont.few : ∀ {G : List Prt}, Cont G → G.length ≤ nxtP G + 1
  | [], _ => by simp
  | [p], _ => by simp
  | p :: q :: r, h => by
    have h1 := Cont.few (Cont.tail h)
    have h2 : p.1 < q.1 := Cont.lt h q (by simp)
    have h3 : nxtP (p :: q :: r) = nxtP (q :: r) := by rw [nxtP_cons, if_neg (by simp)]
    have h4 : ∀ {G : List Prt}, Cont G → G ≠ [] → G.length + fstP G ≤ nxtP G + 1 := by
      intro G
      induction G with
      | nil => intro _ h; exact absurd rfl h
      | cons a l ih =>
        intro hc _
        cases l with
        | nil => simp [fstP, nxtP, endP]; omega
        | cons b l =>
          have h5 := ih (Cont.tail hc) (by simp)
          have h6 : a.1 < b.1 := Cont.lt hc b (by simp)
          have h7 : nxtP (a :: b :: l) = nxtP (b :: l) := by rw [nxtP_cons, if_neg (by simp)]
          have e1 : fstP (a :: b :: l) = a.1 := rfl
          have e2 : fstP (b :: l) = b.1 := rfl
          simp only [List.length_cons] at h5 ⊢
          omega
    have h5 := h4 h (by simp)
    simp only [List.length_cons] at h5 ⊢
    omega
theorem Sml.mono {G : List Prt} {N M : Nat} (h : Sml G N) (hm : N ≤ M) : Sml G M := ⟨h.cont, Nat.le_trans h.nx hm, h.len⟩
theorem Sml.nil : Sml [] 0 := ⟨trivial, by simp [nxtP], fun p hp => by cases hp⟩
theorem Sml.few {G : List Prt} {N : Nat} (h : Sml G N) : G.length ≤ N + 1 := Nat.le_trans h.cont.few (by have := h.nx; omega)
theorem Sml.one {G : List Prt} {N : Nat} (h : Sml G N) {p : Prt} (hp : p ∈ G) : p.1 ≤ N ∧ p.2.length ≤ N ∧ szP p ≤ 2016 * N := by
  have h1 := Cont.lt_end h.cont p hp
  have h2 := h.nx
  have h3 : szP p ≤ 2016 * p.2.length := by
    rw [szP_eq]
    have h4 := h.len p hp
    generalize p.2 = l at h4
    induction l with
    | nil => simp [sumR]
    | cons b l ih =>
      have h5 := ih fun x hx => h4 x (List.mem_cons_of_mem _ hx)
      have h6 := h4 b List.mem_cons_self
      have e : sumR (b :: l) = 16 + b.length + sumR l := by simp [sumR]
      rw [e, List.length_cons]
      omega
  unfold endP at h1
  refine ⟨by omega, by omega, Nat.le_trans h3 (Nat.mul_le_mul_left _ (by omega))⟩
theorem Sml.short {G : List Prt} {N : Nat} (h : Sml G N) : ShortR G := fun p hp b hb => Nat.le_trans (h.len p hp b hb) (by decide)
theorem logPut_nxt {G : List Prt} (b : List UInt8) (h : Cont G) : nxtP (logPut G b) = nxtP G + 1 := by
  rw [nxtP_eq (logPut_cont b h), nxtP_eq h, logPut_fst, logPut_all]; simp; omega
theorem logPut_mem {G : List Prt} {b : List UInt8} {P : List UInt8 → Prop} (h : ∀ p ∈ G, ∀ x ∈ p.2, P x) (hb : P b) : ∀ p ∈ logPut G b, ∀ x ∈ p.2, P x := by
  rcases List.eq_nil_or_concat G with rfl | ⟨a, q, rfl⟩
  · intro p hp x hx
    rw [logPut_nil, List.mem_singleton] at hp
    subst hp
    rw [List.mem_singleton.1 hx]; exact hb
  · rw [List.concat_eq_append] at h ⊢
    rw [logPut_snoc]
    split
    · intro p hp x hx
      rcases List.mem_append.1 hp with hp | hp
      · exact h p hp x hx
      · rw [List.mem_singleton.1 hp] at hx
        rw [List.mem_singleton.1 hx]; exact hb
    · intro p hp x hx
      rcases List.mem_append.1 hp with hp | hp
      · exact h p (List.mem_append_left _ hp) x hx
      · rw [List.mem_singleton.1 hp] at hx
        rcases List.mem_append.1 hx with hx | hx
        · exact h q (by simp) x hx
        · rw [List.mem_singleton.1 hx]; exact hb
theorem Sml.put {G : List Prt} {N : Nat} {b : List UInt8} (h : Sml G N) (hb : b.length ≤ 2000) : Sml (logPut G b) (N + 1) :=
  ⟨logPut_cont b h.cont, by rw [logPut_nxt b h.cont]; have := h.nx; omega, logPut_mem h.len hb⟩
/-- A file's safe part is a part of it. -/
theorem lk_safe {w : World} {F M : Nat} {ps : List PF} {clock : Nat} {lim arm : Int} {dn : Bool} {s : ByteArray} {v : FV} (h : FilesAt w F M ps clock lim arm dn) (hl : lk ps s = some v) : v.2 ≤ v.1.length := by
  obtain ⟨l1, p, l2, rfl, rfl, rfl, -⟩ := lk_split hl
  exact (h.at_ p (by simp)).safe
/-- A log with its files, nothing lying behind its records. -/
structure LS (w : World) (T F M : Nat) (nm : ByteArray) (ps : List PF) (clock : Nat) (lim arm : Int) (dn : Bool) (v : Value) (ms : List PM) (dead : Bool) (sf N : Nat) : Prop where
  lg : LG w T F M nm ps clock lim arm dn v ms dead
  ld : LogD (lk ps) nm (prts ms) [] sf
  sm : Sml (prts ms) N
section
variable {w w' : World} {T F M : Nat} {nm : ByteArray} {ps : List PF} {clock : Nat} {lim arm : Int} {dn : Bool} {v : Value} {ms : List PM} {dead : Bool} {sf N : Nat}
theorem LS.stay (h : LS w T F M nm ps clock lim arm dn v ms dead sf N) (hk : Kept (fun _ => False) w w') : LS w' T F M nm ps clock lim arm dn v ms dead sf N := ⟨h.lg.stay hk, h.ld, h.sm⟩
theorem LS.sfl (h : LS w T F M nm ps clock lim arm dn v ms dead sf N) (hN : N ≤ 10000) : ∀ a q, prts ms = a ++ [q] → sf ≤ szP q := fun a q e => by
  have hc := h.sm.cont
  have hl := h.ld q.1 (by have := (h.sm.one (p := q) (by rw [e]; simp)).1; omega)
  rw [e] at hc hl
  rw [lookP_last hc] at hl
  have := lk_safe h.lg.f hl
  simpa [szP, frsP] using this
theorem LS.pre {A : Option Addr} {n c : Nat} {xs : List UInt8} (h : LS w T F M nm ps clock lim arm dn v ms dead sf N) (hN : N ≤ 10000) (hnm : nm.size ≤ 82) (hf : fullB nm = true) (hu : usedL ps ≤ 4194304) (hx : ∀ W, Kept (LFoot T F M ps v ms) w W → Bs W A xs) (hn : n = xs.length) (hA : A = none → c = 0) (hs : xs.length ≤ 2000) :
    LAppPre w T F M nm ps v ms sf A n c xs := by
  have hm : ∀ p ∈ ms, p.prt ∈ prts ms := fun p hp => List.mem_map_of_mem hp
  refine ⟨h.sm.cont, h.ld, h.sfl hN, ?_, fun p hp => ?_, fun p hp => ?_, by have := h.sm.nx; omega, by omega, fun u => full_file nm u hf hnm, hu, hx, hn, hA, by omega⟩
  · have := h.sm.few; rw [prts, List.length_map] at this; omega
  · have := (h.sm.one (hm p hp)).2.1
    have e : p.prt.2.length = p.rs.length := by simp [PM.prt]
    omega
  · have := (h.sm.one (hm p hp)).2.2
    omega
/-- Append into a log that is open, on files that are not hit, where there is room. -/
def LApp0 (w : World) (T F M : Nat) (nm : ByteArray) (ps : List PF) (lim : Int) (v : Value) (ms : List PM) (N : Nat) (xs : List UInt8) (e : Ending) (w' : World) : Prop :=
  ∃ ps' c' v' ms' sf', e = .returned (.tuple #[.int .u64 ((nxtP (prts ms) : Nat) : Int), .int .i64 0]) ∧ LS w' T F M nm ps' c' lim 0 false v' ms' false sf' (N + 1) ∧ prts ms' = logPut (prts ms) xs ∧ MvL w T F M ps v ms ps' v' ms' w' ∧ (∀ q ∈ ms, BBs w' q.A q.rs) ∧ (∀ s, (∀ u, s ≠ fileB nm u) → lk ps' s = lk ps s) ∧ usedL ps' ≤ usedL ps + (16 + xs.length)
theorem slAppend_0 {A : Option Addr} {n c : Nat} {xs : List UInt8} (h : LS w T F M nm ps clock lim 0 false v ms false sf N) (hN : N ≤ 10000) (hnm : nm.size ≤ 82) (hf : fullB nm = true) (hu : usedL ps + (16 + xs.length) ≤ 4194304) (hlim : ((usedL ps + (16 + xs.length) : Nat) : Int) ≤ lim) (hx : ∀ W, Kept (LFoot T F M ps v ms) w W → Bs W A xs) (hn : n = xs.length) (hA : A = none → c = 0) (hs : xs.length ≤ 2000) :
    Calls Tryz.prog 17 #[.pointer (some ⟨T, 0, none⟩), .slice A n c] w (LApp0 w T F M nm ps lim v ms N xs) := by
  refine (slAppend_any w T F M nm ps clock lim 0 v ms sf A n c xs h.lg (h.pre hN hnm hf (by omega) hx hn hA hs)).mono ?_
  rintro e w' ⟨er, ps', c', v', ms', arm', dn', rfl, hl, hm, hb, ho, ha, hu', h1 | h1 | h1⟩
  · obtain ⟨rfl, rfl, h2, h3⟩ := h1
    have ha0 := ha rfl
    subst ha0
    exact ⟨ps', c', v', ms', _, rfl, ⟨hl, by rw [h2]; exact h3, by rw [h2]; exact h.sm.put hs⟩, h2, hm, hb, ho, hu'⟩
  · obtain ⟨rfl, -, h2, -⟩ := h1
    omega
  · obtain ⟨rfl, h2, -⟩ := h1
    exact absurd rfl h2
end
end Go.Proofs.YtibalgfejfjndaaGreatDoor
end

/-! seglog: how many bytes all segments have; Segments. -/
section
set_option linter.unusedVariables false
set_option linter.unusedSimpArgs false
namespace Go.Proofs.YtibalgfejfjndaaGreatDoor
open Go.RowKit

/-- How many bytes all segments have. -/
def sumSz (G : List Prt) : Nat := (G.map szP).sum
theorem sumSz_snoc (G : List Prt) (p : Prt) : sumSz (G ++ [p]) = sumSz G + szP p := by simp [sumSz]
theorem sumSz_cons (G : List Prt) (p : Prt) : sumSz (p :: G) = szP p + sumSz G := by simp [sumSz]
theorem sumSz_take (G : List Prt) (k : Nat) (p : Prt) (h : G[k]? = some p) : sumSz (G.take (k + 1)) = sumSz (G.take k) + szP p := by
  rw [List.take_add_one, h, Option.toList_some, sumSz_snoc]
theorem sumSz_le (G : List Prt) (k : Nat) : sumSz (G.take k) ≤ sumSz G := by
  have : sumSz G = sumSz (G.take k) + sumSz (G.drop k) := by
    conv => lhs; rw [← List.take_append_drop k G]
    simp only [sumSz, List.map_append, List.sum_append]
  omega
theorem sumSz_all {G : List Prt} : sumSz G = sumR (allR G) := by
  induction G with
  | nil => rfl
  | cons p G ih =>
    rw [sumSz_cons, ih, szP_eq]
    simp [sumR, allR]
theorem Sml.sum {G : List Prt} {N : Nat} (h : Sml G N) : sumSz G ≤ 2016 * N := by
  have h1 : ∀ l : List (List UInt8), (∀ b ∈ l, b.length ≤ 2000) → sumR l ≤ 2016 * l.length := by
    intro l hl
    induction l with
    | nil => simp [sumR]
    | cons b l ih =>
      have h5 := ih fun x hx => hl x (List.mem_cons_of_mem _ hx)
      have h6 := hl b List.mem_cons_self
      have e : sumR (b :: l) = 16 + b.length + sumR l := by simp [sumR]
      rw [e, List.length_cons]; omega
  have h2 := h1 (allR G) fun b hb => by
    obtain ⟨p, hp, hb⟩ := List.mem_flatMap.1 hb
    exact h.len p hp b hb
  have h3 := nxtP_eq h.cont
  have h4 := h.nx
  rw [sumSz_all]
  exact Nat.le_trans h2 (Nat.mul_le_mul_left _ (by omega))
theorem sumSz_drop (G : List Prt) (k : Nat) : sumSz (G.drop k) ≤ sumSz G := by
  have : sumSz G = sumSz (G.take k) + sumSz (G.drop k) := by
    conv => lhs; rw [← List.take_append_drop k G]
    simp only [sumSz, List.map_append, List.sum_append]
  omega
set_option maxRecDepth 100000 in
set_option maxHeartbeats 4000000 in
theorem slSize_any (w : World) (T F : Nat) (nm : ByteArray) (v : Value) (ms : List PM) (dead : Bool) (h : LB w T F nm v dead) (hr : RowM w v ms) (hl : ms.length ≤ 100000) (hs : sumSz (prts ms) ≤ 1000000000) :
    Calls Tryz.prog 51 #[.pointer (some ⟨T, 0, none⟩)] w fun e w' => e = .returned (.int .i64 ((sumSz (prts ms) : Nat) : Int)) ∧ Kept (fun _ => False) w w' := by
  obtain ⟨A, c, rfl⟩ := own_slice hr
  obtain ⟨n, hn⟩ : ∃ n, n = ms.length := ⟨_, rfl⟩
  rw [← hn] at h
  have c2 := h.c2
  have Hn := Lib.hid hn
  have HRow := Lib.hid hr
  have Hs := Lib.hid hs
  have hn9 : n ≤ 100000 := by omega
  clear h hr hn hs hl
  go_enter Tryz.func51, Tryz.ntmps51
  go_wp2_with fail
  go_loopw [3, 11] (fun s i wr => ∃ k : Nat, k ≤ n ∧ i = .int .i64 (k : Nat) ∧ s = .int .i64 ((sumSz ((prts ms).take k) : Nat) : Int) ∧ Hid (Kept (fun _ => False) w wr)) (fun _ i _ => n - (intOf i).toNat)
  case atStart => exact ⟨0, by omega, rfl, rfl, Lib.hid (Kept.refl _ _)⟩
  case round =>
    obtain ⟨k, hk, rfl, rfl, hK⟩ := hrel
    by_cases hkl : k < n
    · have hk9 : (k : Int) < (n : Int) := by omega
      obtain ⟨p, hp⟩ : ∃ p, ms[k]? = some p := ⟨_, List.getElem?_eq_getElem (by have := Hn.out; omega)⟩
      obtain ⟨G, c', hvf, -, hcn, -, -, hcell⟩ := HRow.out.form (fun e => by have := Hn.out; rw [e] at this; simp at this; omega)
      rw [← Hn.out] at hvf hcn
      simp only [Value.slice.injEq, true_and] at hvf
      obtain ⟨rfl, rfl⟩ := hvf
      obtain ⟨x0, x1, x2⟩ := hcell k p hp
      have y0 := hK.out.cell x0 (by simp)
      have y1 := hK.out.cell x1 (by simp)
      have y2 := hK.out.cell x2 (by simp)
      unfold PM.rv at y1
      obtain ⟨s0, hs0⟩ : ∃ s0, s0 = sumSz ((prts ms).take k) := ⟨_, rfl⟩
      obtain ⟨sz, hsz⟩ : ∃ sz, sz = szP p.prt := ⟨_, rfl⟩
      have hpp : (prts ms)[k]? = some p.prt := by simp [prts, hp]
      have hsum := sumSz_take _ _ _ hpp
      have hle := sumSz_le (prts ms) (k + 1)
      rw [← hs0, ← hsz] at hsum
      rw [← hsz] at y2
      rw [← hs0]
      have hb : s0 + sz ≤ 1000000000 := by have := Hs.out; omega
      have Hsum : Hid (sumSz ((prts ms).take (k + 1)) = s0 + sz) := Lib.hid hsum
      obtain ⟨f, hf⟩ : ∃ f, f = p.first := ⟨_, rfl⟩
      obtain ⟨lr, hlr⟩ : ∃ lr, lr = p.rs.length := ⟨_, rfl⟩
      rw [← hf] at y0
      rw [← hlr] at y1
      clear hs0 hsz hpp hsum hle hcell x0 x1 x2 hp hf hlr
      have hK2 : Hid (Kept (fun _ => False) w (wr.alloc (.cells #[.int .u64 (f : Nat), .slice p.A lr p.c, .int .i64 (sz : Nat)] 61))) := Lib.hid (hK.out.alloc _)
      go_wp2
      go_roundw
      case rel => exact ⟨k + 1, by omega, by go_num, by rw [Hsum.out]; go_num, hK2⟩
      case measure => simp [intOf]; omega
    · have hk9 : ¬ (k : Int) < (n : Int) := by omega
      have HT : Hid ((prts ms).take k = prts ms) := Lib.hid (List.take_of_length_le (by rw [prts, List.length_map]; have := Hn.out; omega))
      go_wp2
      go_ret
      exact ⟨by rw [HT.out]; rfl, hK.out⟩

/-! ### Segments -/
def cellsS (G : List Prt) : List Value := G.flatMap fun p => [.int .u64 (p.1 : Nat), .int .i64 (szP p : Nat)]
theorem cellsS_len (G : List Prt) : (cellsS G).length = G.length * 2 := by
  induction G with
  | nil => rfl
  | cons p G ih => rw [show cellsS (p :: G) = [.int .u64 (p.1 : Nat), .int .i64 (szP p : Nat)] ++ cellsS G from rfl, List.length_append, ih, List.length_cons]; simp; omega
theorem cellsS_snoc (G : List Prt) (p : Prt) : cellsS (G ++ [p]) = cellsS G ++ [.int .u64 (p.1 : Nat), .int .i64 (szP p : Nat)] := by simp [cellsS]
theorem cellsS_at (G : List Prt) (k : Nat) (p : Prt) (h : G[k]? = some p) : (cellsS G)[k * 2]? = some (.int .u64 (p.1 : Nat)) ∧ (cellsS G)[k * 2 + 1]? = some (.int .i64 (szP p : Nat)) := by
  induction G generalizing k with
  | nil => simp at h
  | cons q G ih =>
    have e : cellsS (q :: G) = [.int .u64 (q.1 : Nat), .int .i64 (szP q : Nat)] ++ cellsS G := rfl
    cases k with
    | zero => simp at h; subst h; simp [e]
    | succ k =>
      have h2 := ih k (by simpa using h)
      rw [e]
      refine ⟨?_, ?_⟩
      · rw [List.getElem?_append_right (by simp; omega)]
        have : (k + 1) * 2 - [Value.int .u64 (q.1 : Nat), .int .i64 (szP q : Nat)].length = k * 2 := by simp; omega
        rw [this]; exact h2.1
      · rw [List.getElem?_append_right (by simp; omega)]
        have : (k + 1) * 2 + 1 - [Value.int .u64 (q.1 : Nat), .int .i64 (szP q : Nat)].length = k * 2 + 1 := by simp; omega
        rw [this]; exact h2.2
theorem infoSg : (Tryz.prog.info? 103).map (fun i => (i.zero, i.size, i.bytes)) = some (some (.agg #[.int .u64 0, .int .i64 0]), 2, 16) := by kernel_rfl
theorem elemSg : ElemT 29 103 2 16 := ElemT.of Tryz.underlying29 infoSg (by kernel_rfl) (by decide) (by decide)
/-- A row of segments, as they are told. -/
def SegAt (w : World) (b : Nat) (v : Value) (G : List Prt) : Prop := w.ownsRow b 103 2 v G.length (cellsS G)
set_option maxRecDepth 100000 in
set_option maxHeartbeats 4000000 in
theorem slSegments_any (w : World) (T F : Nat) (nm : ByteArray) (v : Value) (ms : List PM) (dead : Bool) (h : LB w T F nm v dead) (hr : RowM w v ms) (hl : ms.length ≤ 100000) :
    Calls Tryz.prog 54 #[.pointer (some ⟨T, 0, none⟩)] w fun e w' => ∃ u, e = .returned u ∧ SegAt w' w.heap.size u (prts ms) ∧ Kept (fun _ => False) w w' := by
  obtain ⟨A, c, rfl⟩ := own_slice hr
  obtain ⟨n, hn⟩ : ∃ n, n = ms.length := ⟨_, rfl⟩
  rw [← hn] at h
  have c2 := h.c2
  have Hn := Lib.hid hn
  have HRow := Lib.hid hr
  have hn9 : n ≤ 100000 := by omega
  clear h hr hn hl
  go_enter Tryz.func54, Tryz.ntmps54
  go_wp2_with fail
  go_loopw [3, 13] (fun s i wr => ∃ (k : Nat) (A1 : Option Addr) (c1 : Nat), k ≤ n ∧ i = .int .i64 (k : Nat) ∧ s = .slice A1 k c1 ∧ Hid (wr.ownsRow w.heap.size 103 2 (.slice A1 k c1) k (cellsS ((prts ms).take k))) ∧ Hid (Kept (fun _ => False) w wr)) (fun _ i _ => n - (intOf i).toNat)
  case' atStart => exact ⟨0, none, 0, by omega, rfl, rfl, Lib.hid (World.ownsRow_nil _ _ _ _), Lib.hid (Kept.refl _ _)⟩
  obtain ⟨k, A1, c1, hk, rfl, rfl, hRx, hK⟩ := hrel
  by_cases hkl : k < n
  · have hk9 : (k : Int) < (n : Int) := by omega
    obtain ⟨p, hp⟩ : ∃ p, ms[k]? = some p := ⟨_, List.getElem?_eq_getElem (by have := Hn.out; omega)⟩
    obtain ⟨G, c', hvf, -, hcn, -, -, hcell⟩ := HRow.out.form (fun e => by have := Hn.out; rw [e] at this; simp at this; omega)
    rw [← Hn.out] at hvf hcn
    simp only [Value.slice.injEq, true_and] at hvf
    obtain ⟨rfl, rfl⟩ := hvf
    obtain ⟨x0, x1, x2⟩ := hcell k p hp
    have y0 := hK.out.cell x0 (by simp)
    have y1 := hK.out.cell x1 (by simp)
    have y2 := hK.out.cell x2 (by simp)
    unfold PM.rv at y1
    obtain ⟨sz, hsz⟩ : ∃ sz, sz = szP p.prt := ⟨_, rfl⟩
    rw [← hsz] at y2
    obtain ⟨f, hf⟩ : ∃ f, f = p.first := ⟨_, rfl⟩
    obtain ⟨lr, hlr⟩ : ∃ lr, lr = p.rs.length := ⟨_, rfl⟩
    rw [← hf] at y0
    rw [← hlr] at y1
    have Hcs : Hid (cellsS ((prts ms).take k) ++ [.int .u64 (f : Nat), .int .i64 (sz : Nat)] = cellsS ((prts ms).take (k + 1))) := Lib.hid (by
      have hpp : (prts ms)[k]? = some p.prt := by simp [prts, hp]
      rw [List.take_add_one, hpp, Option.toList_some, cellsS_snoc, hsz, hf]; rfl)
    clear hsz hcell x0 x1 x2 hp hf hlr
    go_upto_region 6 with fail
    obtain ⟨B2, hB2⟩ : ∃ B2, B2 = wr.heap.size := ⟨_, rfl⟩
    obtain ⟨V2, hV2⟩ : ∃ V2, V2 = wr.alloc (.cells #[.int .u64 (f : Nat), .slice p.A lr p.c, .int .i64 (sz : Nat)] 61) := ⟨_, rfl⟩
    have hkv : Kept (fun _ => False) wr V2 := by rw [hV2]; exact (Kept.refl _ wr).alloc _
    have hb2 : V2.heap[B2]? = some (.cells #[.int .u64 (f : Nat), .slice p.A lr p.c, .int .i64 (sz : Nat)] 61 (0, 0)) := by rw [hV2, hB2]; exact heap_alloc_new wr _
    have z0 : V2.cell? ⟨B2, 0, none⟩ = some (.int .u64 (f : Nat)) := by simp [World.cell?, hb2]
    have z2 : V2.cell? ⟨B2, 2, none⟩ = some (.int .i64 (sz : Nat)) := by simp [World.cell?, hb2]
    have HKv := Lib.hid (hK.out.trans' hkv)
    have HRv := Lib.hid (own_kept hRx.out hkv (by simp))
    rw [← hB2, ← hV2]
    clear hB2 hV2 hkv hb2 y0 y1 y2
    go_wp2_with (at_builtin; refine wpList_append_e elemSg rfl _ _ rfl w.heap.size (.slice A1 k c1) k (cellsS ((prts ms).take k)) rfl (own_kept HRv.out ((Kept.refl (fun _ => False) V2).alloc _) (by simp)) _ 1 1 [.int .u64 (f : Nat), .int .i64 (sz : Nat)] rfl (cs_new _ _ _) rfl (by simp [Value.oneCell']) (fun e => by cases e) (by omega) (Nat.le_trans HKv.out.size ((Kept.refl (fun _ => False) V2).alloc _).size) ?_; intro v3 w3' hown hgrow; obtain ⟨A3, c3, rfl⟩ := own_slice hown; have HO3 := Lib.hid hown; have HK3 := Lib.hid (HKv.out.trans ((((Kept.refl (fun _ => False) V2).alloc (.cells #[.int .u64 (f : Nat), .int .i64 (sz : Nat)] 103)).mono fun _ _ e => e.elim).trans' hgrow.kept) fun q hq e => by have h1 := own_ge HRv.out q e; omega); clear hown hgrow)
    go_roundw
    case rel => exact ⟨k + 1, A3, c3, by omega, by go_num, rfl, Lib.hid (by rw [← Hcs.out]; exact HO3.out), HK3⟩
    case measure => simp [intOf]; omega
  · have hk9 : ¬ (k : Int) < (n : Int) := by omega
    have HT : Hid ((prts ms).take k = prts ms ∧ k = (prts ms).length) := Lib.hid ⟨List.take_of_length_le (by rw [prts, List.length_map]; have := Hn.out; omega), by rw [prts, List.length_map]; have := Hn.out; omega⟩
    go_wp2
    go_ret
    refine ⟨_, rfl, ?_, hK.out⟩
    have h1 := hRx.out
    rw [HT.out.1] at h1
    unfold SegAt
    rw [← HT.out.2]; exact h1
end Go.Proofs.YtibalgfejfjndaaGreatDoor
end

/-! seglog.Trim. -/
section
set_option linter.unusedVariables false
set_option linter.unusedSimpArgs false
namespace Go.Proofs.YtibalgfejfjndaaGreatDoor
open Go.RowKit

/-- How many segments go. -/
def trimN : List Prt → Nat → Nat
  | p :: q :: r, m => if sumSz (p :: q :: r) ≤ m then 0 else 1 + trimN (q :: r) m
  | _, _ => 0
theorem trimN_few {G : List Prt} (m : Nat) (h : G.length < 2) : trimN G m = 0 := by
  match G, h with
  | [], _ => rfl
  | [p], _ => rfl
theorem trimN_fit {G : List Prt} {m : Nat} (h : sumSz G ≤ m) : trimN G m = 0 := by
  match G with
  | [] => rfl
  | [p] => rfl
  | p :: q :: r => unfold trimN; rw [if_pos h]
theorem trimN_more {G : List Prt} {m : Nat} (h : 2 ≤ G.length) (h2 : ¬ sumSz G ≤ m) : trimN G m = 1 + trimN (G.drop 1) m := by
  match G, h with
  | p :: q :: r, _ => show (if sumSz (p :: q :: r) ≤ m then 0 else 1 + trimN (q :: r) m) = _; rw [if_neg h2]; rfl
theorem trimN_lt : ∀ (G : List Prt) (m : Nat), G ≠ [] → trimN G m < G.length
  | [], _, h => absurd rfl h
  | [p], _, _ => by simp [trimN]
  | p :: q :: r, m, _ => by
    have h := trimN_lt (q :: r) m (by simp)
    unfold trimN
    split
    · simp
    · simp only [List.length_cons] at h ⊢; omega
theorem slice_from1Pt (W : World) (G n c : Nat) (h1 : 1 < n) (h2 : n ≤ c) : (Instr.slice 48 (.slice (some ⟨G, 0, none⟩) n c) (some (.int .i64 1)) none none).run Tryz.prog W = .ok (.slice (some ⟨G, 3, none⟩) (n - 1) (c - 1)) W := by
  have hsz : ∀ W, (sizeOf 61).run Tryz.prog W = .ok 3 W := fun W => by kernel_rfl
  have h3 : (0 : Int) ≤ (1 : Int) ∧ (1 : Int) ≤ (n : Int) := by omega
  have h4 : (0 : Int) ≤ (n : Int) ∧ (n : Int) ≤ (c : Int) := by omega
  have h5 : ¬ c = 1 := by omega
  simp only [Instr.slice, Sem.run_bind, run_underlying Tryz.underlying48, Result.andThen, Instr.sliceBounds, Instr.sliceBound, asIntOf, Sem.run_pure, if_pos h3, if_pos h4, hsz]
  simp [h5, Addr.add]
theorem Cs.drop3 {W : World} {G : Nat} {p : PM} {ms : List PM} (h : Cs W (some ⟨G, 0, none⟩) (cellsM (p :: ms))) : Cs W (some ⟨G, 3, none⟩) (cellsM ms) := by
  refine ⟨fun e => (by cases e), fun ad e j u hu => ?_⟩
  injection e with e
  subst e
  have e2 : cellsM (p :: ms) = p.cells ++ cellsM ms := rfl
  have h1 := h.2 ⟨G, 0, none⟩ rfl (j + 3) u (by rw [e2, List.getElem?_append_right (by simp [PM.cells])]; simpa [PM.cells] using hu)
  have e3 : (⟨G, 0, none⟩ : Addr).add (j + 3) = (⟨G, 3, none⟩ : Addr).add j := by
    unfold Addr.add
    split <;> split <;> simp_all <;> omega
  rwa [e3] at h1
section
variable {w w1 : World} {T F M : Nat} {nm : ByteArray} {ps : List PF} {clock : Nat} {lim arm : Int} {dn dead : Bool} {v v' : Value} {p : PM} {ms : List PM}
/-- The first segment goes: the row of the others is new. -/
theorem LG.tail (h : LG w T F M nm ps clock lim arm dn v (p :: ms) dead) (hk : Kept (fun _ => False) w w1) (hr : w1.ownsRow w.heap.size 61 3 v' ms.length (cellsM ms)) :
    LG (w1.setCell ⟨T, 2, none⟩ v') T F M nm ps clock lim arm dn v' ms dead ∧ MvL w T F M ps v (p :: ms) ps v' ms (w1.setCell ⟨T, 2, none⟩ v') := by
  have h1 := h.stay hk
  have hT := kF w1 T 2 v'
  have hfl := h.f.lt
  have hge := own_ge hr
  have hTl := h.lb.lt
  have st : ∀ {b e s n : Nat} {x : Value} {xs : List Value}, w1.ownsRow b e s x n xs → e ≠ 50 → (w1.setCell ⟨T, 2, none⟩ v').ownsRow b e s x n xs := fun {b e s n x xs} hx he => own_kept hx hT fun k e1 e2 => h1.lb.noRow hx he (e2 ▸ e1)
  refine ⟨⟨h1.f.kept hT fun k hm e => h.nT (e ▸ hm), h1.lb.s2 v', own_low (st hr (by decide)) (Nat.zero_le _), fun q hq => st (h1.rr q (List.mem_cons_of_mem _ hq)) (by decide), fun q hq r hrr => st (h1.own q (List.mem_cons_of_mem _ hq) r hrr) (by decide), h.nT,
    fun k e hm => ?_, fun q hq => h.nr q (List.mem_cons_of_mem _ hq), fun q hq => h.nq q (List.mem_cons_of_mem _ hq), (List.pairwise_cons.1 h.dj).2⟩, ⟨(hk.mono fun _ _ e => e.elim).trans' (hT.mono fun k _ e => .inl e), fun k e => ?_, fun q hq r hr k e => .inl ⟨q, List.mem_cons_of_mem _ hq, r, hr, e⟩⟩⟩
  · have := hge k e
    have := hfl k hm
    omega
  · rcases e with e | e | e | ⟨q, hq, e⟩
    · exact .inl (.inl e)
    · exact .inl (.inr (.inl e))
    · exact .inr (hge k e)
    · exact .inl (.inr (.inr (.inr ⟨q, List.mem_cons_of_mem _ hq, e⟩)))
end
theorem prts_drop (ms : List PM) (j : Nat) : prts (ms.drop j) = (prts ms).drop j := by simp [prts]
/-- What is held when j segments have gone. -/
def TrI (w W : World) (T F M : Nat) (nm : ByteArray) (ps : List PF) (lim arm : Int) (dn : Bool) (v : Value) (ms : List PM) (m sf j : Nat) : Prop :=
  ∃ v' ps' c' arm', LG W T F M nm ps' c' lim arm' dn v' (ms.drop j) dn ∧ LogD (lk ps') nm ((prts ms).drop j) [] sf ∧ MvL w T F M ps v ms ps' v' (ms.drop j) W ∧ (∀ s, (∀ u, s ≠ fileB nm u) → lk ps' s = lk ps s) ∧ (arm = 0 → arm' = 0) ∧ usedL ps' ≤ usedL ps ∧
    trimN (prts ms) m = j + trimN ((prts ms).drop j) m
/-- What Trim answers and leaves. -/
def TrimPost (w : World) (T F M : Nat) (nm : ByteArray) (ps : List PF) (lim arm : Int) (v : Value) (ms : List PM) (m sf : Nat) (e : Ending) (w' : World) : Prop :=
  (e = .returned (.tuple #[.int .i64 ((trimN (prts ms) m : Nat) : Int), .int .i64 0]) ∧ TrI w w' T F M nm ps lim arm false v ms m sf (trimN (prts ms) m)) ∨
  (arm ≠ 0 ∧ e = .returned (.tuple #[.int .i64 0, .int .i64 13]) ∧ ∃ j, j < trimN (prts ms) m ∧ TrI w w' T F M nm ps lim arm true v ms m sf j)
set_option maxRecDepth 100000 in
set_option maxHeartbeats 8000000 in
theorem slTrim_any (w : World) (T F M : Nat) (nm : ByteArray) (ps : List PF) (clock : Nat) (lim arm : Int) (v : Value) (ms : List PM) (most : Int) (m sf N : Nat) (h : LS w T F M nm ps clock lim arm false v ms false sf N) (hN : N ≤ 10000) (hnm : nm.size ≤ 82) (hm : (m : Int) = max most 0) :
    Calls Tryz.prog 24 #[.pointer (some ⟨T, 0, none⟩), .int .i64 most] w (TrimPost w T F M nm ps lim arm v ms m sf) := by
  have HR := Lib.hid (slReady_ok w T F M nm v lim arm h.lg.lb h.lg.f.fb)
  have H0 : Hid (TrI w w T F M nm ps lim arm false v ms m sf 0) := Lib.hid ⟨v, ps, clock, arm, h.lg, h.ld, MvL.refl, fun _ _ => rfl, fun e => e, Nat.le_refl _, by simp⟩
  have HSm := Lib.hid h.sm
  have HFi : Hid (∀ W u, u ≤ 10000 → Calls Tryz.prog 10 #[.string nm, .int .u64 (u : Nat)] W fun e w' => e = .returned (.string (fileB nm u)) ∧ Kept (fun _ => False) W w') := Lib.hid fun W u hu => slFile_any W nm u (by omega) (by omega)
  have Hm := Lib.hid hm
  have hmx : max most 0 = (m : Int) := hm.symm
  obtain ⟨n, hn⟩ : ∃ n, n = ms.length := ⟨_, rfl⟩
  have Hn := Lib.hid hn
  have hn9 : n ≤ 10001 := by have := h.sm.few; rw [prts, List.length_map] at this; omega
  clear h hm hn
  go_enter Tryz.func24, Tryz.ntmps24
  go_wp2_with fail
  go_step3
  go_wp2_with (go_at_call 42; refine HR.out.mono ?_; rintro e w ⟨rfl, rfl⟩)
  go_step3
  go_wp2_with fail
  go_loopw [7] (fun x wr => ∃ j : Nat, x = .int .i64 (j : Nat) ∧ j ≤ n ∧ Hid (TrI w wr T F M nm ps lim arm false v ms m sf j)) (fun x _ => n - (intOf x).toNat)
  case atStart => exact ⟨0, rfl, by omega, H0⟩
  case round =>
    obtain ⟨j, rfl, hj, hI⟩ := hrel
    obtain ⟨v1, ps1, c1, arm1, hL, hD, hM, hO, ha, hu, htr⟩ := hI.out
    obtain ⟨A1, cv, rfl⟩ := own_slice hL.row
    obtain ⟨k, hk⟩ : ∃ k, k = (ms.drop j).length := ⟨_, rfl⟩
    have hkn : k = n - j := by rw [hk, List.length_drop]; have := Hn.out; omega
    have hrw := hL.row
    have hlg := hL
    have hmv := hM
    rw [← hk] at hL hM
    have e2 := hL.lb.c2
    obtain ⟨sz, hsz⟩ : ∃ sz, sz = sumSz (prts (ms.drop j)) := ⟨_, rfl⟩
    have HS : Hid (∀ W, Kept (fun _ => False) wr W → Calls Tryz.prog 51 #[.pointer (some ⟨T, 0, none⟩)] W fun e w' => e = .returned (.int .i64 (sz : Nat)) ∧ Kept (fun _ => False) W w') := Lib.hid (fun W hW => by
      have := slSize_any W T F nm (.slice A1 (ms.drop j).length cv) (ms.drop j) false (hlg.lb.kept hW (by simp)) (hrw.kept hW (by simp)) (by omega) (by
        rw [prts_drop]
        have h1 := sumSz_drop (prts ms) j
        have h2 := HSm.out.sum
        omega)
      rwa [← hsz] at this)
    have HLg := Lib.hid hL
    have HMv := Lib.hid hM
    have HD := Lib.hid hD
    have HO := Lib.hid hO
    have Ha := Lib.hid ha
    have Hu := Lib.hid hu
    have Htr := Lib.hid htr
    have Hk := Lib.hid hk
    have Hsz := Lib.hid hsz
    have hkn1 : k + j ≤ n := by omega
    have hkn2 : n ≤ k + j := by omega
    clear hlg hmv hL hM hD hO ha hu htr hk hsz hrw hkn
    by_cases h2 : k < 2
    · have h29 : (k : Int) < 2 := by omega
      have HX : Hid (TrimPost w T F M nm ps lim arm v ms m sf (.returned (.tuple #[.int .i64 (j : Nat), .int .i64 0])) wr) := Lib.hid (by
        have h9 : trimN (prts ms) m = j := by rw [Htr.out, trimN_few m (by rw [← prts_drop, prts, List.length_map, ← Hk.out]; exact h2)]; rfl
        exact .inl ⟨by rw [h9], by rw [h9]; exact hI.out⟩)
      go_wp2
      go_ret2
      exact HX.out
    have h29 : ¬ (k : Int) < 2 := by omega
    by_cases h3 : sz ≤ m
    · have h39 : (sz : Int) ≤ (m : Int) := by omega
      have HX : Hid (∀ W, Kept (fun _ => False) wr W → TrimPost w T F M nm ps lim arm v ms m sf (.returned (.tuple #[.int .i64 (j : Nat), .int .i64 0])) W) := Lib.hid (fun W hW => by
        have h9 : trimN (prts ms) m = j := by rw [Htr.out, trimN_fit (by rw [← prts_drop, ← Hsz.out]; exact h3)]; rfl
        obtain ⟨v1, ps1, c1, arm1, hL, hD, hM, hO, ha, hu, htr⟩ := hI.out
        exact .inl ⟨by rw [h9], by rw [h9]; exact ⟨v1, ps1, c1, arm1, hL.stay hW, hD, hM.trans (MvL.stay hW), hO, ha, hu, htr⟩⟩)
      go_wp2_with (go_at_call 51; refine (HS.out _ (Kept.refl _ _)).mono ?_; rintro e w2 ⟨rfl, hk2⟩; have HK2 := Lib.hid hk2; clear hk2)
      go_ret2
      exact HX.out _ HK2.out
    have h39 : ¬ (sz : Int) ≤ (m : Int) := by omega
    go_upto_region 6 with (go_at_call 51; refine (HS.out _ (Kept.refl _ _)).mono ?_; rintro e w2 ⟨rfl, hk2⟩; have HK2 := Lib.hid hk2; clear hk2)
    obtain ⟨p, L, hpL⟩ : ∃ p L, ms.drop j = p :: L := by
      cases h9 : ms.drop j with
      | nil => exfalso; have := Hk.out; rw [h9] at this; simp at this; omega
      | cons p L => exact ⟨p, L, rfl⟩
    have hL1 : 1 ≤ L.length := by have := Hk.out; rw [hpL, List.length_cons] at this; omega
    have hkL : k = L.length + 1 := by have := Hk.out; rw [hpL, List.length_cons] at this; omega
    have hLg2 := HLg.out.stay HK2.out
    obtain ⟨G, c', hvf, hob, hcn, hc9, hGl, hcell⟩ := hLg2.row.form (by rw [hpL]; simp)
    simp only [Value.slice.injEq] at hvf
    obtain ⟨rfl, -, rfl⟩ := hvf
    obtain ⟨g0, -, -⟩ := hcell 0 p (by rw [hpL]; rfl)
    rw [Nat.zero_mul] at g0
    obtain ⟨f, hf⟩ : ∃ f, f = p.first := ⟨_, rfl⟩
    rw [← hf] at g0
    have c0 := hLg2.lb.c0
    have c1' := hLg2.lb.c1
    have c2 := hLg2.lb.c2
    have hpm : p.prt ∈ prts ms := by
      have : p ∈ ms.drop j := by rw [hpL]; simp
      exact List.mem_map_of_mem (List.mem_of_mem_drop this)
    have hf9 : f ≤ 10000 := by have := (HSm.out.one hpm).1; have e : p.prt.1 = f := hf.symm; omega
    have hDr : (prts ms).drop j = p.prt :: prts L := by rw [← prts_drop, hpL]; rfl
    have hcD : Cont (p.prt :: prts L) := by
      have := HSm.out.cont
      rw [← List.take_append_drop j (prts ms), hDr] at this
      exact Cont.right this
    have hneL : prts L ≠ [] := fun e => by have h9 := congrArg List.length e; rw [prts, List.length_map, List.length_nil] at h9; omega
    have hlk : lk ps1 (fileB nm f) = some (frsP p.prt, szP p.prt) := by
      have h1 := HD.out f (by omega)
      have h2 : lookP (p.prt :: prts L) [] sf p.prt.1 = some (frsP p.prt, szP p.prt) := lookP_before (a := []) hneL hcD
      rw [hDr, hf, show p.first = p.prt.1 from rfl, h2] at h1
      rw [hf]; exact h1
    have hdr : LogD ((lk ps1).put (fileB nm f) none) nm (prts L) [] sf := by
      have h1 := HD.out
      rw [hDr] at h1
      have := h1.drop hneL hcD (by have e : p.prt.1 = f := hf.symm; omega)
      rw [hf]; exact this
    have HRm : Hid (∀ W, Kept (fun _ => False) w2 W → Calls Tryz.prog 15 #[.pointer (some ⟨F, 0, none⟩), .string (fileB nm f)] W fun e w' => ∃ er, e = .returned (.int .i64 er) ∧ OpR W F M ps1 lim arm1 ((lk ps1).put (fileB nm f) none) er w') := Lib.hid fun W hW => (remove_D (fileB nm f) _ (hLg2.stay hW).f hlk).mono fun _ _ h => opR_of h
    have HSs : Hid (∀ W S, Kept S w2 W → ¬ S T → ¬ S G → W.cell? ⟨T, 0, none⟩ = some (.pointer (some ⟨F, 0, none⟩)) ∧ W.cell? ⟨T, 1, none⟩ = some (.string nm) ∧ W.cell? ⟨T, 2, none⟩ = some (.slice (some ⟨G, 0, none⟩) k cv) ∧ W.cell? ⟨G, 0, none⟩ = some (.int .u64 (f : Nat))) := Lib.hid fun W S hk hS hG => ⟨hk.cell c0 hS, hk.cell c1' hS, hk.cell c2 hS, hk.cell g0 hG⟩
    have HGf : Hid (G ∉ foot F M ps1 ∧ G ≠ T) := Lib.hid ⟨hLg2.nv G hob, fun e => hLg2.lb.noRow hLg2.row (by decide) (e ▸ hob)⟩
    have HLg2 := Lib.hid hLg2
    have HpL := Lib.hid hpL
    have Hf := Lib.hid hf
    have HkL := Lib.hid hkL
    have HDr := Lib.hid hDr
    have Hdr := Lib.hid hdr
    have Hlk := Lib.hid hlk
    have HcD := Lib.hid hcD
    have HK1 : Hid (Kept (fun _ => False) w2 w2) := Lib.hid (Kept.refl _ _)
    have s1 := HSs.out w2 _ HK1.out (by simp) (by simp)
    have hk0 : 0 < k := by omega
    have hcv : k ≤ cv := by have := Hk.out; omega
    clear hLg2 hpL hcell g0 hf c0 c1' c2 hpm hDr hcD hneL hlk hdr hob hcn hc9 hGl hkL e2
    go_region_held3 (fun W => W.cell? ⟨T, 0, none⟩ = some (.pointer (some ⟨F, 0, none⟩)) ∧ W.cell? ⟨T, 1, none⟩ = some (.string nm) ∧ W.cell? ⟨T, 2, none⟩ = some (.slice (some ⟨G, 0, none⟩) k cv) ∧ W.cell? ⟨G, 0, none⟩ = some (.int .u64 (f : Nat))) (first | assumption | exact s1) (first
      | (go_at_call 45; refine (slMet_any w4 T F nm _ false er HLB4.out).mono ?_; rintro e w5 ⟨rfl, hl5, hk5⟩; have HL5 := Lib.hid hl5; have HK5 := Lib.hid hk5; have s5 : w5.cell? ⟨T, 0, none⟩ = some (.pointer (some ⟨F, 0, none⟩)) ∧ w5.cell? ⟨T, 1, none⟩ = some (.string nm) ∧ w5.cell? ⟨T, 2, none⟩ = some (.slice (some ⟨G, 0, none⟩) k cv) ∧ w5.cell? ⟨G, 0, none⟩ = some (.int .u64 (f : Nat)) := ⟨hl5.c0, hl5.c1, hl5.c2, hk5.cell s4.2.2.2 HGf.out.2⟩; clear hl5 hk5)
      | (go_at_call 15; refine (HRm.out _ HK3.out).mono ?_; rintro e w4 ⟨er, rfl, ps4, c4, h4⟩; have H4 := Lib.hid h4; have HKF : Hid (Kept (fun k => k ∈ foot F M ps1) w3 w4) := Lib.hid (by rcases h4 with ⟨_, _, hw, _⟩ | ⟨_, _, hw, _⟩ <;> exact hw.kept); have HLB4 := Lib.hid ((HLg2.out.stay HK3.out).lb.kept HKF.out HLg2.out.nT); have s4 := HSs.out w4 _ ((HK3.out.mono fun _ _ e => e.elim).trans' HKF.out) HLg2.out.nT HGf.out.1; clear h4)
      | (go_at_call 10; refine (HFi.out _ f hf9).mono ?_; rintro e w3 ⟨rfl, hk⟩; have HK3 : Hid (Kept (fun _ => False) w2 w3) := (by first | exact Lib.hid (HK1.out.trans' hk) | exact Lib.hid (HK1.out.drew.trans' hk)); have s3 := HSs.out w3 _ HK3.out (by simp) (by simp); clear hk))
    rcases H4.out with ⟨rfl, ha, hw, hd⟩ | ⟨rfl, ha, hw, hd⟩
    · have HX : Hid (TrimPost w T F M nm ps lim arm v ms m sf (.returned (.tuple #[.int .i64 0, .int .i64 13])) w5) := Lib.hid (by
        have hl5 : LG w5 T F M nm ps4 c4 lim (decA arm1) true (.slice (some ⟨G, 0, none⟩) k cv) (ms.drop j) true := ((HLg2.out.stay HK3.out).went hw).turn (by simpa using HL5.out) HK5.out
        have hm5 := ((HMv.out.trans (MvL.stay HK2.out)).trans (MvL.stay HK3.out)).trans ((MvL.went hw).trans (MvL.turn HK5.out))
        refine .inr ⟨fun e => ?_, rfl, j, ?_, _, ps4, c4, _, hl5, by rw [hd]; exact HD.out, hm5, fun s hs => by rw [hd]; exact HO.out s hs, fun e => decA0 (Ha.out e), ?_, Htr.out⟩
        · have := Ha.out e; omega
        · have h9 := Htr.out
          have h10 := trimN_more (G := (prts ms).drop j) (m := m) (by rw [HDr.out, List.length_cons, prts, List.length_map]; omega) (by rw [← prts_drop, ← Hsz.out]; exact h3)
          omega
        · have := used_same HLg.out.f.names hw.at_.names hd
          have := Hu.out
          omega)
      clear ha hw hd
      go_wp2
      try rw [Exit.noGoto_ret]
      go_ret2
      exact HX.out
    · go_upto_region 9 with fail
      have hl5 : LG w5 T F M nm ps4 c4 lim (decA arm1) false (.slice (some ⟨G, 0, none⟩) k cv) (p :: L) false := by
        have := ((HLg2.out.stay HK3.out).went hw).turn (by simpa using HL5.out) HK5.out
        rwa [HpL.out] at this
      have hm5 : MvL w T F M ps v ms ps4 (.slice (some ⟨G, 0, none⟩) k cv) (p :: L) w5 := by
        have := ((HMv.out.trans (MvL.stay HK2.out)).trans (MvL.stay HK3.out)).trans ((MvL.went hw).trans (MvL.turn HK5.out))
        rwa [HpL.out] at this
      have hu5 : usedL ps4 ≤ usedL ps := by
        have h8 := used_put HLg.out.f.names hw.at_.names hd
        have e0 : szV (none : Option FV) = 0 := rfl
        rw [e0] at h8
        have := Hu.out
        omega
      obtain ⟨k1, hk1⟩ : ∃ k1, k1 = k - 1 := ⟨_, rfl⟩
      obtain ⟨cv1, hcv1⟩ : ∃ cv1, cv1 = cv - 1 := ⟨_, rfl⟩
      have hsl : ∀ W, (Instr.slice 48 (.slice (some ⟨G, 0, none⟩) k cv) (some (.int .i64 1)) none none).run Tryz.prog W = .ok (.slice (some ⟨G, 3, none⟩) k1 cv1) W := fun W => by rw [hk1, hcv1]; exact slice_from1Pt W G k cv (by omega) hcv
      have hcs : Cs w5 (some ⟨G, 3, none⟩) (cellsM L) := by
        obtain ⟨A', c'', hv9, hcs, -⟩ := Cs.of_row hl5.row
        simp only [Value.slice.injEq] at hv9
        obtain ⟨rfl, -, rfl⟩ := hv9
        exact hcs.drop3
      have HCl : Hid (Calls Tryz.prog 52 #[.slice (some ⟨G, 3, none⟩) k1 cv1] w5 fun e w' => ∃ v, e = .returned v ∧ w'.ownsRow w5.heap.size 61 3 v L.length (cellsM L) ∧ Kept (fun _ => False) w5 w') := Lib.hid (cloneParts_any w5 _ k1 cv1 L (by have := HkL.out; omega) (by omega) hcs (fun e => by cases e))
      have c5 := hl5.lb.c2
      have f5 := hl5.lb.fz 2
      have Hl5 := Lib.hid hl5
      have Hm5 := Lib.hid hm5
      have Hu5 := Lib.hid hu5
      have Hd := Lib.hid hd
      clear hl5 hm5 hu5 hk1 hcv1 hcs ha hw hd
      go_upto_region 10 with (go_at_call 52; refine HCl.out.mono ?_; rintro e w6 ⟨v6, rfl, ho6, hk6⟩; obtain ⟨A6, c6, rfl⟩ := own_slice ho6; have HO6 := Lib.hid ho6; have HK6 := Lib.hid hk6; have g2 := hk6.cell c5 (by simp); have gf : w6.frozen? ⟨T, 2, none⟩ = false := (World.frozen?_of_block (hk6.block T Hl5.out.lb.lt (by simp))).trans f5; clear ho6 hk6)
      have HX : Hid (TrI w (w6.setCell ⟨T, 2, none⟩ (.slice A6 L.length c6)) T F M nm ps lim arm false v ms m sf (j + 1)) := Lib.hid (by
        obtain ⟨h1, h2⟩ := Hl5.out.tail HK6.out HO6.out
        have hdj : ms.drop (j + 1) = L := by
          have := congrArg (List.drop 1) HpL.out
          rw [List.drop_drop] at this
          simpa [Nat.add_comm] using this
        refine ⟨_, ps4, c4, _, by rw [hdj]; exact h1, ?_, by rw [hdj]; exact Hm5.out.trans h2, fun s hs => by rw [Hd.out, Disk.put_ne _ _ (hs f)]; exact HO.out s hs, fun e => decA0 (Ha.out e), Hu5.out, ?_⟩
        · rw [← prts_drop, hdj, Hd.out]; exact Hdr.out
        · have h10 := trimN_more (G := (prts ms).drop j) (m := m) (by rw [HDr.out, List.length_cons, prts, List.length_map]; omega) (by rw [← prts_drop, ← Hsz.out]; exact h3)
          rw [List.drop_drop] at h10
          have := Htr.out
          rw [Nat.add_comm j 1] at *
          omega)
      clear hsl c5 f5 g2 gf
      go_wp2
      go_roundw
      case rel => exact ⟨j + 1, by go_num, by omega, HX⟩
      case measure => simp [intOf]; omega
end Go.Proofs.YtibalgfejfjndaaGreatDoor
end

/-! couranthelp.Plain over segments: two lists that are alike. -/
section
set_option linter.unusedVariables false
set_option linter.unusedSimpArgs false
namespace Go.Proofs.YtibalgfejfjndaaGreatDoor
open Go.RowKit

set_option maxRecDepth 100000 in
set_option maxHeartbeats 1000000 in
theorem plainSg1_any (w : World) (a b : Nat) : Calls Tryz.prog 71 #[.agg #[.int .u64 (a : Nat), .int .i64 (b : Nat)], .agg #[.int .u64 (a : Nat), .int .i64 (b : Nat)]] w fun e w' => e = .returned (.bool true) ∧ Kept (fun _ => False) w w' := by
  have hk : Kept (fun _ => False) w ((w.alloc (.cells #[.int .u64 (a : Nat), .int .i64 (b : Nat)] 103)).alloc (.cells #[.int .u64 (a : Nat), .int .i64 (b : Nat)] 103)) := ((Kept.refl _ w).alloc _).alloc _
  have HK := Lib.hid hk
  clear hk
  go_enter Tryz.func71, Tryz.ntmps71
  go_wp2
  go_ret
  exact ⟨rfl, HK.out⟩
/-- Segments, as they are told, that can be read. -/
def SgAt (w : World) (A : Option Addr) (G : List Prt) : Prop := ∀ (j : Nat) p, G[j]? = some p → ∃ ad, A = some ad ∧ w.cell? (ad.add (j * 2)) = some (.int .u64 (p.1 : Nat)) ∧ w.cell? ⟨(ad.add (j * 2)).block, (ad.add (j * 2)).off + 1, none⟩ = some (.int .i64 (szP p : Nat))
theorem SgAt.kept {S : Nat → Prop} {w w' : World} {A : Option Addr} {G : List Prt} (h : SgAt w A G) (hk : Kept S w w') (hS : ∀ ad, A = some ad → ¬ S ad.block) : SgAt w' A G := fun j p hp => by
  obtain ⟨ad, h1, h2, h3⟩ := h j p hp
  exact ⟨ad, h1, hk.cell h2 (by rw [add_block]; exact hS ad h1), hk.cell h3 (by rw [add_block]; exact hS ad h1)⟩
theorem SegAt.form {w : World} {b : Nat} {v : Value} {G : List Prt} (h : SegAt w b v G) : ∃ A c, v = .slice A G.length c ∧ SgAt w A G ∧ (A = none → c = 0) ∧ G.length ≤ c ∧ (∀ ad, A = some ad → ∃ g, ad = ⟨g, 0, none⟩ ∧ v.ownBlock = some g) := by
  rcases h.2 with ⟨hv, h0⟩ | ⟨g, cap, cur, hv, hb, hh, h1, h2, h3, h4⟩
  · have hG := List.eq_nil_of_length_eq_zero h0
    subst hG
    exact ⟨none, 0, hv, fun j p hp => by simp at hp, fun _ => rfl, Nat.le_refl _, fun ad e => by cases e⟩
  · refine ⟨some ⟨g, 0, none⟩, cap, hv, fun j p hp => ⟨_, rfl, ?_⟩, fun e => (by cases e), h1, fun ad e => by injection e with e; subst e; exact ⟨g, rfl, by rw [hv]; rfl⟩⟩
    have hl : v.ownBlock = some g := by rw [hv]; rfl
    obtain ⟨c0, c1⟩ := cellsS_at G j p hp
    have k0 := h.cells hl (j * 2) _ c0
    have k1 := h.cells hl (j * 2 + 1) _ c1
    have e0 : ∀ n, (⟨g, 0, none⟩ : Addr).add n = ⟨g, n, none⟩ := fun n => by unfold Addr.add; split <;> simp_all <;> omega
    rw [e0] at k0 k1
    rw [e0]
    exact ⟨k0, k1⟩
set_option maxRecDepth 100000 in
set_option maxHeartbeats 8000000 in
theorem sameSg_eq (w : World) (A A' : Option Addr) (n c c' : Nat) (G : List Prt) (hn : n = G.length) (hn9 : n ≤ 1000000) (h : SgAt w A G) (h' : SgAt w A' G) :
    Calls Tryz.prog 70 #[.slice A n c, .slice A' n c', .func (.func 71) #[] #[]] w fun e w' => e = .returned (.bool true) ∧ Kept (fun _ => False) w w' := by
  have H := Lib.hid h
  have H' := Lib.hid h'
  have Hn := Lib.hid hn
  clear h h' hn
  have hn8 : (n : Int) ≤ 1000000 := by omega
  go_enter Tryz.func70, Tryz.ntmps70
  go_wp2_with fail
  go_loopw [7] (fun i wr => ∃ k : Nat, k ≤ n ∧ i = .int .i64 k ∧ Hid (Kept (fun _ => False) w wr)) (fun i _ => n - (intOf i).toNat)
  case atStart => exact ⟨0, by omega, rfl, Lib.hid (Kept.refl _ _)⟩
  case round =>
    obtain ⟨k, hk, rfl, hK⟩ := hrel
    by_cases hlt : k < n
    · have hk9 : (k : Int) < (n : Int) := by omega
      obtain ⟨p, hp⟩ : ∃ p, G[k]? = some p := ⟨_, List.getElem?_eq_getElem (by have := Hn.out; omega)⟩
      obtain ⟨a1, rfl, x0, x1⟩ := H.out k p hp
      obtain ⟨a2, rfl, y0, y1⟩ := H'.out k p hp
      have x0 := hK.out.cell x0 (by simp)
      have x1 := hK.out.cell x1 (by simp)
      have y0 := hK.out.cell y0 (by simp)
      have y1 := hK.out.cell y1 (by simp)
      obtain ⟨f, hf⟩ : ∃ f, f = p.1 := ⟨_, rfl⟩
      obtain ⟨z, hz⟩ : ∃ z, z = szP p := ⟨_, rfl⟩
      rw [← hf] at x0 y0
      rw [← hz] at x1 y1
      have HP := Lib.hid (plainSg1_any wr.drew f z)
      clear hp hf hz
      go_upto_region 6 with fail
      go_region_held3 (fun W => W.cell? (a1.add (k * 2)) = some (.int .u64 (f : Nat)) ∧ W.cell? ⟨(a1.add (k * 2)).block, (a1.add (k * 2)).off + 1, none⟩ = some (.int .i64 (z : Nat)) ∧ W.cell? (a2.add (k * 2)) = some (.int .u64 (f : Nat)) ∧ W.cell? ⟨(a2.add (k * 2)).block, (a2.add (k * 2)).off + 1, none⟩ = some (.int .i64 (z : Nat))) (first | assumption | exact ⟨x0, x1, y0, y1⟩ | exact ⟨HC9.out _ _ x0, HC9.out _ _ x1, HC9.out _ _ y0, HC9.out _ _ y1⟩ | simp [*]) (first
        | (go_at_call 71; refine HP.out.mono ?_; rintro e w9 ⟨rfl, hk9'⟩; have HK9 := Lib.hid hk9'; have HC9 : Hid (∀ (ad : Addr) (v : Value), wr.cell? ad = some v → w9.cell? ad = some v) := Lib.hid fun ad v hc => hk9'.cell (by simpa using hc) (by simp); clear hk9'))
      go_wp2
      go_roundw
      case rel => exact ⟨k + 1, by omega, by go_num, Lib.hid (hK.out.drew.trans' HK9.out)⟩
      case measure => simp [intOf]; omega
    · have hk9 : ¬ (k : Int) < (n : Int) := by omega
      go_wp2
      go_ret
      exact ⟨rfl, hK.out⟩
set_option maxHeartbeats 1000000 in
theorem plainSg_eq (w : World) (A A' : Option Addr) (n c c' : Nat) (G : List Prt) (hn : n = G.length) (hn9 : n ≤ 1000000) (h : SgAt w A G) (h' : SgAt w A' G) :
    Calls Tryz.prog 53 #[.slice A n c, .slice A' n c'] w fun e w' => e = .returned (.bool true) ∧ Kept (fun _ => False) w w' := by
  have HS := Lib.hid (sameSg_eq w A A' n c c' G hn hn9 h h')
  clear hn h h'
  go_enter Tryz.func53, Tryz.ntmps53
  go_wp2_with (go_at_call 70; refine HS.out.mono ?_; rintro e w9 ⟨rfl, hk⟩; have HK9 := Lib.hid hk; clear hk)
  go_ret
  exact ⟨rfl, HK9.out⟩
end Go.Proofs.YtibalgfejfjndaaGreatDoor
end
