import Derived.Test.YtefpigakhhfcaaaDoorMbc
import Derived.Test.YtefpigakhhfcaaaDoorMax
import Derived.OwnWalkIn
import Derived.Maps.AppendAt
/-! What lies there, against what should: pure. -/
section
set_option linter.unusedVariables false
set_option linter.unusedSimpArgs false
namespace Go.Proofs.YtefpigakhhfcaaaDoor

/-- D, what lies there, is a beginning of G with at least s records. -/
def Under (D G : List Prt) (s : Nat) : Prop := Cont G ∧ ((D = [] ∧ fstP G = 0 ∧ s = 0) ∨ ∃ ps f rs more rest, D = ps ++ [(f, rs)] ∧ G = ps ++ (f, rs ++ more) :: rest ∧ s ≤ (allR ps).length + rs.length)
/-- So many records of D are safe. -/
def SafeB (D : List Prt) (s sf : Nat) : Prop := ∀ ps p, D = ps ++ [p] → s ≤ (allR D).length ∧ (frsL p.1 (p.2.take (s - (allR ps).length))).length ≤ sf
theorem Under.self {G : List Prt} {s : Nat} (hc : Cont G) (hs : s ≤ (allR G).length) : Under G G s := by
  refine ⟨hc, ?_⟩
  rcases List.eq_nil_or_concat G with rfl | ⟨ps, p, rfl⟩
  · exact .inl ⟨rfl, rfl, by simpa [allR] using hs⟩
  · rw [List.concat_eq_append] at hs ⊢
    exact .inr ⟨ps, p.1, p.2, [], [], rfl, by simp, by rw [allR_append] at hs; simpa [allR] using hs⟩
theorem Under.all {D G : List Prt} {s : Nat} (h : Under D G s) : s ≤ (allR D).length ∧ (allR D).length ≤ (allR G).length ∧ allR D = (allR G).take (allR D).length := by
  obtain ⟨hc, ⟨rfl, -, rfl⟩ | ⟨ps, f, rs, more, rest, rfl, rfl, h1⟩⟩ := h
  · simp [allR]
  · rw [allR_append, allR_append]
    have e : allR [(f, rs)] = rs := by simp [allR]
    have e2 : allR ((f, rs ++ more) :: rest) = rs ++ (more ++ allR rest) := by simp [allR]
    rw [e, e2, ← List.append_assoc]
    refine ⟨by simpa using h1, by simp, ?_⟩
    rw [List.take_left]
/-- What Open makes of D is what the cut makes of G. -/
theorem Under.norm {D G : List Prt} {s : Nat} (h : Under D G s) : logNorm D = logCut G (allR D).length := by
  obtain ⟨hc, ⟨rfl, h1, rfl⟩ | ⟨ps, f, rs, more, rest, rfl, rfl, h1⟩⟩ := h
  · cases G with
    | nil => rfl
    | cons p r =>
      have h2 : p.1 = 0 := by simpa [fstP] using h1
      rw [logNorm_nil]
      unfold logCut
      rw [if_pos (by simp [segCut, allR, h2])]
  · rw [norm_cut hc, allR_append]
    simp [allR]
theorem Under.fst {D G : List Prt} {s : Nat} (h : Under D G s) : fstP (logNorm D) = fstP G ∨ (logNorm D = [] ∧ fstP G = 0) := by
  obtain ⟨hc, ⟨rfl, h1, rfl⟩ | ⟨ps, f, rs, more, rest, rfl, rfl, h1⟩⟩ := h
  · exact .inr ⟨rfl, h1⟩
  · rw [logNorm_snoc]
    split
    · next he =>
      cases ps with
      | nil =>
        rcases he.2 with h2 | h2
        · exact absurd rfl h2
        · exact .inr ⟨rfl, by simpa [fstP] using h2⟩
      | cons a b => exact .inl (by simp [fstP])
    · cases ps <;> exact .inl (by simp [fstP])
theorem logNorm_all (D : List Prt) : allR (logNorm D) = allR D := by
  rcases List.eq_nil_or_concat D with rfl | ⟨ps, p, rfl⟩
  · rfl
  · rw [List.concat_eq_append, logNorm_snoc]
    split
    · next he => rw [allR_append]; simp [allR, he.1]
    · rfl
theorem logNorm_cont {D : List Prt} (h : Cont D) : Cont (logNorm D) := by
  rcases List.eq_nil_or_concat D with rfl | ⟨ps, p, rfl⟩
  · trivial
  · rw [List.concat_eq_append] at h ⊢
    rw [logNorm_snoc]
    split
    · exact Cont.left h
    · exact h
theorem logNorm_again (D : List Prt) (h : Cont D) : logNorm (logNorm D) = logNorm D := by
  rcases List.eq_nil_or_concat D with rfl | ⟨ps, p, rfl⟩
  · rfl
  · rw [List.concat_eq_append] at h ⊢
    rw [logNorm_snoc]
    split
    · next he =>
      rcases List.eq_nil_or_concat ps with rfl | ⟨a, q, rfl⟩
      · rfl
      · rw [List.concat_eq_append] at h ⊢
        rw [logNorm_snoc, if_neg fun e => Cont.ne h q (by simp) e.1]
    · next he => rw [logNorm_snoc, if_neg he]
/-- The last segment cut further. -/
theorem Under.cut {ps : List Prt} {p : Prt} {G : List Prt} {s sf j : Nat} (h : Under (ps ++ [p]) G s) (hs : SafeB (ps ++ [p]) s sf) (hj : j ≤ p.2.length) (hi : ∀ i, i ≤ p.2.length → (frsL p.1 (p.2.take i)).length ≤ sf → i ≤ j) :
    Under (ps ++ [(p.1, p.2.take j)]) G s := by
  obtain ⟨hc, ⟨h1, -⟩ | ⟨qs, f, rs, more, rest, h1, rfl, h2⟩⟩ := h
  · simp at h1
  · obtain ⟨rfl, h3⟩ := List.append_inj' h1 rfl
    simp only [List.cons.injEq, and_true] at h3
    subst h3
    obtain ⟨h4, h5⟩ := hs ps (f, rs) rfl
    have h6 := hi (s - (allR ps).length) (by simp only at *; omega) h5
    refine ⟨hc, .inr ⟨ps, f, rs.take j, rs.drop j ++ more, rest, rfl, by rw [← List.append_assoc, List.take_append_drop], ?_⟩⟩
    rw [List.length_take]
    simp only at hj
    omega
theorem Under.put {G : List Prt} {s : Nat} (b : List UInt8) {D : List Prt} (h : Under D G s) : Under D (logPut G b) s := by
  obtain ⟨hc, ⟨rfl, h1, rfl⟩ | ⟨ps, f, rs, more, rest, rfl, rfl, h1⟩⟩ := h
  · exact ⟨logPut_cont b hc, .inl ⟨rfl, by rw [logPut_fst, h1], rfl⟩⟩
  · refine ⟨logPut_cont b hc, .inr ?_⟩
    rcases List.eq_nil_or_concat rest with rfl | ⟨a, q, rfl⟩
    · rw [logPut_snoc]
      split
      · exact ⟨ps, f, rs, more, [(endP (f, rs ++ more), [b])], rfl, by simp, h1⟩
      · exact ⟨ps, f, rs, more ++ [b], [], rfl, by simp, h1⟩
    · rw [List.concat_eq_append, show ps ++ (f, rs ++ more) :: (a ++ [q]) = (ps ++ (f, rs ++ more) :: a) ++ [q] by simp, logPut_snoc]
      split
      · exact ⟨ps, f, rs, more, a ++ [q] ++ [(endP q, [b])], rfl, by simp, h1⟩
      · exact ⟨ps, f, rs, more, a ++ [(q.1, q.2 ++ [b])], rfl, by simp, h1⟩
end Go.Proofs.YtefpigakhhfcaaaDoor
end

/-! append onto rows of whatever plain structures, of the call's own; a cell of such a row set anew. -/
section
set_option linter.unusedVariables false
set_option linter.unusedSimpArgs false
namespace Go.Proofs.YtefpigakhhfcaaaDoor
open Go.RowKit

/-- What append wants of a slice's type. -/
structure ElemT (S E : TypeId) (size bytes : Nat) : Prop where
  u : Tryd.prog.underlying S = some (.slice E)
  i : ∃ i z, Tryd.prog.info? E = some i ∧ i.zero = some z ∧ i.size = size ∧ i.bytes = bytes ∧ z.cells.size = size
  s : 0 < size
  b : bytes ≤ 100
section
variable {w : World} {o : Oper} {a : Act} {S E : TypeId} {size bytes : Nat}
theorem ElemT.of {z : Value} (u : Tryd.prog.underlying S = some (.slice E)) (hi : (Tryd.prog.info? E).map (fun i => (i.zero, i.size, i.bytes)) = some (some z, size, bytes)) (hz : z.cells.size = size) (hs : 0 < size) (hb : bytes ≤ 100) : ElemT S E size bytes := by
  obtain ⟨i0, h1, h2, h3, h4⟩ := info_parts hi
  exact ⟨u, ⟨i0, z, h1, h2, h3, h4, hz⟩, hs, hb⟩
end
/-- Where an append leaves its row: in the old one, or in a new block, and nothing has turned. -/
def Grew (w w' : World) (v v' : Value) : Prop := (v'.ownBlock = v.ownBlock ∧ w.grownBy w' v.ownBlock) ∨ (v'.ownBlock = some w.heap.size ∧ w.grownBy w' none)
theorem Grew.row {w w' : World} {v v' : Value} (h : Grew w w' v v') : w.grownBy w' v.ownBlock := by
  rcases h with h | h
  · exact h.2
  · exact ⟨h.2.os, h.2.tape, h.2.output, h.2.size, fun k hk _ => h.2.block k hk (by simp)⟩
theorem Grew.kept {w w' : World} {v v' : Value} (h : Grew w w' v v') : Kept (fun k => v.ownBlock = some k) w w' := (Kept.refl _ w).grown h.row fun k e _ => e
section
variable {w : World} {o : Oper} {a : Act} {S E : TypeId} {size bytes : Nat}
theorem run_append_e (H : ElemT S E size bytes) (ty : TypeId) (base : Nat) (v : Value) (n : Nat) (ys : List Value) (hown : w.ownsRow base E size v n ys)
    (A : Option Addr) (m c : Nat) (xs : List Value) (hC : Cs w A xs) (hm : xs.length = m * size) (hone : ∀ u ∈ xs, u.oneCell' = true) (hA : A = none → c = 0) (h63 : n + m ≤ 1000000) (hbase : base ≤ w.heap.size) :
    ∃ v' w', (Builtin.append_ #[S, S] ty #[v, .slice A m c]).run Tryd.prog w = .ok v' w' ∧ w'.ownsRow base E size v' (n + m) (ys ++ xs) ∧ Grew w w' v v' := by
  obtain ⟨i0, z, hi, hz0, hz1, hz2, hz3⟩ := H.i
  cases A with
  | none =>
    have h1 := hC.1 rfl
    have h2 := hA rfl
    subst h1; subst h2
    have h3 : m = 0 := by
      rcases Nat.eq_zero_or_pos m with h | h
      · exact h
      · have := Nat.mul_pos h H.s
        simp at hm; omega
    subst h3
    exact ⟨v, w, run_append_owned_none (P := Tryd.prog) (w := w) base S ty E i0 size H.u hi v n ys hown, by simpa using hown, .inl ⟨rfl, rfl, rfl, rfl, Nat.le_refl _, fun _ _ _ => rfl⟩⟩
  | some ad =>
    have hby : (n + m) * bytes ≤ 140737488355328 := Nat.le_trans (Nat.mul_le_mul h63 H.b) (by decide)
    obtain ⟨v', w', hr, h2, h3, h4, h5⟩ := run_append_own_at (P := Tryd.prog) w base S ty E i0 z size bytes H.u hi hz0 hz1 hz2 hz3 H.s v n ys hown ad m c xs hm (hC.2 ad rfl) hone (by unfold maxLen; omega) hby hbase
    refine ⟨v', w', hr, h2, ?_⟩
    rcases h5 with h5 | h5
    · exact .inl ⟨h5, h3⟩
    · refine .inr ⟨h5, ?_⟩
      have holds := fun g hg => hown.cells (g := g) hg
      have hl := hown.1
      rcases hown.2 with ⟨rfl, rfl⟩ | ⟨g, cap, cur, rfl, hbg, hg, hnc, hcm, hcs, ht⟩
      · exact h3
      · by_cases hroom : n + m ≤ cap
        · have hfit : n * i0.size + xs.length ≤ cur.size := by rw [hm, hcs, hz1, ← Nat.add_mul]; exact Nat.mul_le_mul_right _ hroom
          have hr2 := run_append_room (P := Tryd.prog) w S ty E i0 H.u hi g n cap cur hg ad m c xs (by rw [hz1]; exact hm) (hC.2 ad rfl) hone hroom hfit
          rw [hr2] at hr
          injection hr with e1 e2
          subst e1
          have := (Array.getElem?_eq_some_iff.1 hg).1
          simp only [Value.ownBlock, Option.some.injEq] at h5
          omega
        · have hr2 := run_append_grow (P := Tryd.prog) w S ty E i0 z H.u hi hz0 ⟨g, 0, none⟩ n cap ys (by rw [hz1]; exact hl) (holds g rfl) ad m c xs (by rw [hz1]; exact hm) (hC.2 ad rfl) (by omega) (by omega) (growslice_fits (by omega) (by rw [hz2]; exact hby))
          rw [hr2] at hr
          injection hr with e1 e2
          subst e2
          exact ⟨rfl, rfl, rfl, by simp, fun k hk _ => heap_alloc_old w.drew _ hk⟩
theorem wp_append_e (H : ElemT S E size bytes) {K : Act → World → Prop} {Q : Exit → Act → World → Prop} (s x : Operand)
    (ho : o.op = .call { callee := .builtin .append, args := #[s, x], argTypes := #[S, S] })
    (base : Nat) (v : Value) (n : Nat) (ys : List Value) (hs : a.eval s = v) (hown : w.ownsRow base E size v n ys)
    (A : Option Addr) (m c : Nat) (xs : List Value) (hx : a.eval x = .slice A m c) (hC : Cs w A xs) (hm : xs.length = m * size) (hone : ∀ u ∈ xs, u.oneCell' = true) (hA : A = none → c = 0)
    (h63 : n + m ≤ 1000000) (hbase : base ≤ w.heap.size)
    (h : ∀ v' w', w'.ownsRow base E size v' (n + m) (ys ++ xs) → Grew w w' v v' → K (a.put o.dst v') w') : o.wp Tryd.prog a w K Q := by
  obtain ⟨v', w', hr, h2, h3⟩ := run_append_e H o.type base v n ys hown A m c xs hC hm hone hA h63 hbase
  unfold Oper.wp execOp
  simp only [ho, resolve, invoke, builtin, Sem.run_bind, Sem.run_pure, Result.andThen_ok, List.map_toArray, List.map_cons, List.map_nil, hs, hx, hr]
  exact h v' w' h2 h3
theorem wpList_append_e (H : ElemT S E size bytes) {ops : Array Oper} {rest : List Oper} {Q : Exit → Act → World → Prop} (hgd : o.guard = none) (s x : Operand)
    (ho : o.op = .call { callee := .builtin .append, args := #[s, x], argTypes := #[S, S] })
    (base : Nat) (v : Value) (n : Nat) (ys : List Value) (hs : a.eval s = v) (hown : w.ownsRow base E size v n ys)
    (A : Option Addr) (m c : Nat) (xs : List Value) (hx : a.eval x = .slice A m c) (hC : Cs w A xs) (hm : xs.length = m * size) (hone : ∀ u ∈ xs, u.oneCell' = true) (hA : A = none → c = 0)
    (h63 : n + m ≤ 1000000) (hbase : base ≤ w.heap.size)
    (h : ∀ v' w', w'.ownsRow base E size v' (n + m) (ys ++ xs) → Grew w w' v v' → wpList Tryd.prog ops Q rest (a.put o.dst v') w') : wpList Tryd.prog ops Q (o :: rest) a w :=
  wpList_plain hgd fun K hK => wp_append_e H s x ho base v n ys hs hown A m c xs hx hC hm hone hA h63 hbase fun v' w' h2 h3 => hK _ _ (h v' w' h2 h3)
theorem step_append_e (H : ElemT S E size bytes) {ops : Array Oper} {K : Act → World → Prop} {Q : Exit → Act → World → Prop} {X : Prop} (hgd : o.guard = none) (s x : Operand)
    (ho : o.op = .call { callee := .builtin .append, args := #[s, x], argTypes := #[S, S] })
    (base : Nat) (v : Value) (n : Nat) (ys : List Value) (hs : a.eval s = v) (hown : w.ownsRow base E size v n ys)
    (A : Option Addr) (m c : Nat) (xs : List Value) (hx : a.eval x = .slice A m c) (hC : Cs w A xs) (hm : xs.length = m * size) (hone : ∀ u ∈ xs, u.oneCell' = true) (hA : A = none → c = 0)
    (h63 : n + m ≤ 1000000) (hbase : base ≤ w.heap.size)
    (h : ∀ v' w', w'.ownsRow base E size v' (n + m) (ys ++ xs) → Grew w w' v v' → K (a.put o.dst v') w') : if Region.wanted o (yielded ops a.tmps) = true then Oper.wp Tryd.prog o a w K Q else X := by
  have hw : Region.wanted o (yielded ops a.tmps) = true := by simp [Region.wanted, hgd]
  rw [if_pos hw]
  exact wp_append_e H s x ho base v n ys hs hown A m c xs hx hC hm hone hA h63 hbase h
end
/-- One cell of a row of the call's own, set anew. -/
theorem own_set {w : World} {base e size n g : Nat} {v : Value} {xs : List Value} (h : w.ownsRow base e size v n xs) (hg : v.ownBlock = some g) (j : Nat) (u : Value) (hu : u.oneCell' = true) (hj : j < xs.length) :
    (w.setCell ⟨g, j, none⟩ u).ownsRow base e size v n (xs.set j u) := by
  rcases h.2 with ⟨hv, _⟩ | ⟨g', cap, cur, hv, hb, hh, hsz, hc, h63, ht⟩
  · rw [hv] at hg; cases hg
  · rw [hv] at hg
    have e : g' = g := by simpa [Value.ownBlock] using hg
    subst e
    refine ⟨by rw [List.length_set]; exact h.1, .inr ⟨g', cap, cur.setIfInBounds j u, hv, hb, ?_, hsz, hc, by rw [Array.size_setIfInBounds]; exact h63, ?_⟩⟩
    · unfold World.setCell
      simp only [Array.getElem?_modify, if_true, hh]
      rfl
    · rw [Array.toList_setIfInBounds, List.take_set, ht]
end Go.Proofs.YtefpigakhhfcaaaDoor
end

/-! How a log lies. -/
section
set_option linter.unusedVariables false
set_option linter.unusedSimpArgs false
namespace Go.Proofs.YtefpigakhhfcaaaDoor
open Go.RowKit

/-- A segment as it lies: its first offset, the slice of its records, the records. -/
structure PM where
  first : Nat
  A : Option Addr
  c : Nat
  rs : List BV
def PM.rv (p : PM) : Value := .slice p.A p.rs.length p.c
def PM.prt (p : PM) : Prt := (p.first, p.rs.map BV.b)
def PM.cells (p : PM) : List Value := [.int .u64 (p.first : Nat), p.rv, .int .i64 (szP p.prt : Nat)]
def cellsM (ms : List PM) : List Value := ms.flatMap PM.cells
theorem cellsM_len (ms : List PM) : (cellsM ms).length = ms.length * 3 := by
  induction ms with
  | nil => rfl
  | cons r rs ih =>
    have : (cellsM (r :: rs)).length = 3 + (cellsM rs).length := by simp [cellsM, PM.cells]; omega
    rw [this, ih, List.length_cons]; omega
theorem cellsM_append (a b : List PM) : cellsM (a ++ b) = cellsM a ++ cellsM b := by simp [cellsM]
theorem cellsM_one (ms : List PM) : ∀ u ∈ cellsM ms, u.oneCell' = true := by
  intro u hu
  simp only [cellsM, List.mem_flatMap] at hu
  obtain ⟨r, hr, hu⟩ := hu
  simp only [PM.cells, List.mem_cons, List.not_mem_nil, or_false] at hu
  rcases hu with rfl | rfl | rfl <;> rfl
theorem cellsM_at (ms : List PM) (k : Nat) (r : PM) (h : ms[k]? = some r) (i : Nat) (hi : i < 3) : (cellsM ms)[k * 3 + i]? = r.cells[i]? := by
  induction ms generalizing k with
  | nil => simp at h
  | cons q ms ih =>
    have e : cellsM (q :: ms) = q.cells ++ cellsM ms := rfl
    have hq : q.cells.length = 3 := rfl
    cases k with
    | zero =>
      simp at h; subst h
      rw [e, List.getElem?_append_left (by rw [hq]; omega)]; congr 1; omega
    | succ k =>
      simp at h
      rw [e, List.getElem?_append_right (by rw [hq]; omega), hq, show (k + 1) * 3 + i - 3 = k * 3 + i by omega]
      exact ih k h
/-- The last segment's records and size, set anew. -/
theorem cellsM_last (ms : List PM) (p p' : PM) (hf : p'.first = p.first) : ((cellsM (ms ++ [p])).set (ms.length * 3 + 1) p'.rv).set (ms.length * 3 + 2) (.int .i64 (szP p'.prt : Nat)) = cellsM (ms ++ [p']) := by
  rw [cellsM_append, cellsM_append, ← cellsM_len ms, List.set_append_right _ _ (by omega), List.set_append_right _ _ (by omega)]
  simp [cellsM, PM.cells, hf]
/-- The block of a log. -/
def LB (w : World) (T F : Nat) (nm : ByteArray) (v : Value) (dead : Bool) : Prop := w.heap[T]? = some (.cells #[.pointer (some ⟨F, 0, none⟩), .string nm, v, .bool dead] 61 (0, 0))
section
variable {w w' : World} {T F : Nat} {nm : ByteArray} {v : Value} {dead : Bool}
theorem LB.c0 (h : LB w T F nm v dead) : w.cell? ⟨T, 0, none⟩ = some (.pointer (some ⟨F, 0, none⟩)) := by simp [World.cell?, show w.heap[T]? = _ from h]
theorem LB.c1 (h : LB w T F nm v dead) : w.cell? ⟨T, 1, none⟩ = some (.string nm) := by simp [World.cell?, show w.heap[T]? = _ from h]
theorem LB.c2 (h : LB w T F nm v dead) : w.cell? ⟨T, 2, none⟩ = some v := by simp [World.cell?, show w.heap[T]? = _ from h]
theorem LB.c3 (h : LB w T F nm v dead) : w.cell? ⟨T, 3, none⟩ = some (.bool dead) := by simp [World.cell?, show w.heap[T]? = _ from h]
theorem LB.fz (h : LB w T F nm v dead) (i : Nat) : w.frozen? ⟨T, i, none⟩ = false := by simp [World.frozen?, show w.heap[T]? = _ from h]
theorem LB.s2 (h : LB w T F nm v dead) (u : Value) : LB (w.setCell ⟨T, 2, none⟩ u) T F nm u dead := by
  unfold LB World.setCell; simp only [Array.getElem?_modify, if_true, show w.heap[T]? = _ from h]; rfl
theorem LB.s3 (h : LB w T F nm v dead) (u : Bool) : LB (w.setCell ⟨T, 3, none⟩ (.bool u)) T F nm v u := by
  unfold LB World.setCell; simp only [Array.getElem?_modify, if_true, show w.heap[T]? = _ from h]; rfl
theorem LB.kept {S : Nat → Prop} (h : LB w T F nm v dead) (hk : Kept S w w') (hS : ¬ S T) : LB w' T F nm v dead := hk.heap h hS
theorem LB.lt (h : LB w T F nm v dead) : T < w.heap.size := (Array.getElem?_eq_some_iff.1 (show w.heap[T]? = _ from h)).1
end
set_option maxHeartbeats 1000000 in
theorem slMet_any (w : World) (T F : Nat) (nm : ByteArray) (v : Value) (dead : Bool) (er : Int) (h : LB w T F nm v dead) :
    Calls Tryd.prog 33 #[.pointer (some ⟨T, 0, none⟩), .int .i64 er] w fun e w' => e = .returned (.int .i64 er) ∧ LB w' T F nm v (dead || er == 13) ∧ Kept (fun k => k = T) w w' := by
  have H := Lib.hid h
  have c3 := h.c3
  have f3 := h.fz 3
  clear h
  cases dead
  · go_enter Tryd.func33, Tryd.ntmps33
    go_wp2
    go_ret
    exact ⟨rfl, by simpa using H.out.s3 _, (Kept.refl (fun k => k = T) w).setCell (fun _ => rfl) _⟩
  · go_enter Tryd.func33, Tryd.ntmps33
    go_wp2
    go_ret
    exact ⟨rfl, by simpa using H.out.s3 _, (Kept.refl (fun k => k = T) w).setCell (fun _ => rfl) _⟩
set_option maxHeartbeats 1000000 in
theorem slReady_nil (w : World) : Calls Tryd.prog 30 #[.pointer none] w fun e w' => e = .returned (.int .i64 2) ∧ w' = w := by
  go_enter Tryd.func30, Tryd.ntmps30
  go_wp2
  go_ret
  exact ⟨rfl, rfl⟩
set_option maxHeartbeats 1000000 in
theorem slReady_ok (w : World) (T F M : Nat) (nm : ByteArray) (v : Value) (lim arm : Int) (h : LB w T F nm v false) (hf : FB w F M lim arm false) :
    Calls Tryd.prog 30 #[.pointer (some ⟨T, 0, none⟩)] w fun e w' => e = .returned (.int .i64 0) ∧ w' = w := by
  have c0 := h.c0
  have c3 := h.c3
  have HD := Lib.hid (down_any w F M lim arm false hf)
  clear h hf
  go_enter Tryd.func30, Tryd.ntmps30
  go_wp2_with (go_at_call 23; refine HD.out.mono ?_; rintro e w9 ⟨rfl, rfl⟩)
  go_ret
  exact ⟨rfl, rfl⟩
/-- What is down stays so. -/
def DownPost (w : World) (T F : Nat) (nm : ByteArray) (v : Value) (e : Ending) (w' : World) : Prop := e = .returned (.int .i64 13) ∧ LB w' T F nm v true ∧ Kept (fun k => k = T) w w'
set_option maxHeartbeats 1000000 in
theorem slReady_down (w : World) (T F M : Nat) (nm : ByteArray) (v : Value) (dead dn : Bool) (lim arm : Int) (h : LB w T F nm v dead) (hf : FB w F M lim arm dn) (hd : dead = true ∨ dn = true) :
    Calls Tryd.prog 30 #[.pointer (some ⟨T, 0, none⟩)] w (DownPost w T F nm v) := by
  have c0 := h.c0
  have c3 := h.c3
  have HD := Lib.hid (down_any w F M lim arm dn hf)
  have HM := Lib.hid (slMet_any w T F nm v dead 13 h)
  clear h hf
  cases dead
  · have e : dn = true := by simpa using hd
    subst e
    clear hd
    go_enter Tryd.func30, Tryd.ntmps30
    go_wp2_with (first | (go_at_call 23; refine HD.out.mono ?_; rintro e w9 ⟨rfl, rfl⟩) | (go_at_call 33; refine HM.out.mono ?_; rintro e w9 ⟨rfl, h1, h2⟩; have H1 := Lib.hid h1; have H2 := Lib.hid h2; clear h1 h2))
    go_ret
    exact ⟨rfl, by simpa using H1.out, H2.out⟩
  · clear hd
    go_enter Tryd.func30, Tryd.ntmps30
    go_wp2_with (first | (go_at_call 23; refine HD.out.mono ?_; rintro e w9 ⟨rfl, rfl⟩) | (go_at_call 33; refine HM.out.mono ?_; rintro e w9 ⟨rfl, h1, h2⟩; have H1 := Lib.hid h1; have H2 := Lib.hid h2; clear h1 h2))
    go_ret
    exact ⟨rfl, by simpa using H1.out, H2.out⟩
set_option maxHeartbeats 1000000 in
theorem slSync_nil (w : World) : Calls Tryd.prog 20 #[.pointer none] w fun e w' => e = .returned (.int .i64 2) ∧ w' = w := by
  go_enter Tryd.func20, Tryd.ntmps20
  go_wp2_with (go_at_call 30; refine (slReady_nil _).mono ?_; rintro e w ⟨rfl, rfl⟩)
  go_ret
  exact ⟨rfl, rfl⟩
set_option maxHeartbeats 1000000 in
theorem slAppend_nil (w : World) (b : Value) : Calls Tryd.prog 10 #[.pointer none, b] w fun e w' => e = .returned (.tuple #[.int .u64 0, .int .i64 2]) ∧ w' = w := by
  go_enter Tryd.func10, Tryd.ntmps10
  go_wp2_with (go_at_call 30; refine (slReady_nil _).mono ?_; rintro e w ⟨rfl, rfl⟩)
  go_ret2
  exact ⟨rfl, rfl⟩
set_option maxHeartbeats 1000000 in
theorem slTrim_nil (w : World) (b : Value) : Calls Tryd.prog 17 #[.pointer none, b] w fun e w' => e = .returned (.tuple #[.int .i64 0, .int .i64 2]) ∧ w' = w := by
  go_enter Tryd.func17, Tryd.ntmps17
  go_wp2_with fail
  go_step3
  go_wp2_with (go_at_call 30; refine (slReady_nil _).mono ?_; rintro e w ⟨rfl, rfl⟩)
  rw [Exit.noGoto_ret]
  go_ret2
  exact ⟨rfl, rfl⟩
set_option maxHeartbeats 1000000 in
theorem slFirst_nil (w : World) : Calls Tryd.prog 19 #[.pointer none] w fun e w' => e = .returned (.int .u64 0) ∧ w' = w := by
  go_enter Tryd.func19, Tryd.ntmps19
  go_wp2
  go_ret
  exact ⟨rfl, rfl⟩
set_option maxHeartbeats 1000000 in
theorem slNext_nil (w : World) : Calls Tryd.prog 15 #[.pointer none] w fun e w' => e = .returned (.int .u64 0) ∧ w' = w := by
  go_enter Tryd.func15, Tryd.ntmps15
  go_wp2
  go_ret
  exact ⟨rfl, rfl⟩
set_option maxHeartbeats 1000000 in
theorem slSegments_nil (w : World) : Calls Tryd.prog 16 #[.pointer none] w fun e w' => e = .returned (.slice none 0 0) ∧ w' = w := by
  go_enter Tryd.func16, Tryd.ntmps16
  go_wp2
  go_ret
  exact ⟨rfl, rfl⟩
set_option maxRecDepth 100000 in
set_option maxHeartbeats 1000000 in
theorem slOpen_nil (w : World) (nm : ByteArray) : Calls Tryd.prog 7 #[.pointer none, .string nm] w fun e w' => e = .returned (.tuple #[.pointer none, .int .i64 2]) ∧ w' = w := by
  go_enter Tryd.func7, Tryd.ntmps7
  go_wp2
  go_ret2
  exact ⟨rfl, rfl⟩
end Go.Proofs.YtefpigakhhfcaaaDoor
end
