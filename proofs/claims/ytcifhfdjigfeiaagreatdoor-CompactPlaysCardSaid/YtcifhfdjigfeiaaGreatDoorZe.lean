import Derived.Test.YtcifhfdjigfeiaaGreatDoorZd
import Derived.Laws.CopyRow
import Derived.Lib.Overlaps
import Derived.Lib.AppendZeros
/-! Rows of pairs that are written in place: append within the room, clear, copy; slices.Delete. -/
section
set_option linter.unusedVariables false
set_option linter.unusedSimpArgs false
namespace Go.Proofs.YtcifhfdjigfeiaaGreatDoor
open Go.RowKit

def splice (l : List Value) (o : Nat) (vs : List Value) : List Value := l.take o ++ vs ++ l.drop (o + vs.length)
theorem splice_len {l : List Value} {o : Nat} {vs : List Value} (h : o + vs.length ≤ l.length) : (splice l o vs).length = l.length := by
  simp only [splice, List.length_append, List.length_take, List.length_drop]; omega
/-- A block that is a row of pairs. -/
def HR (W : World) (G cap : Nat) (l : List Value) : Prop := W.heap[G]? = some (.cells l.toArray 53 (0, 0)) ∧ l.length = cap * 3
theorem HR.put {W : World} {G cap : Nat} {l : List Value} (h : HR W G cap l) {o : Nat} {vs : List Value} (ho : o + vs.length ≤ l.length) : HR (W.setRow G (splice l o vs).toArray) G cap (splice l o vs) ∧ Kept (fun k => k = G) W (W.setRow G (splice l o vs).toArray) :=
  ⟨⟨setRow_heap W G _ _ _ _ h.1, by rw [splice_len ho]; exact h.2⟩, ⟨rfl, rfl, rfl, by rw [setRow_size]; exact Nat.le_refl _, fun k _ hk => setRow_other W G k _ hk⟩⟩
theorem HR.kept {S : Nat → Prop} {W W' : World} {G cap : Nat} {l : List Value} (h : HR W G cap l) (hk : Kept S W W') (hS : ¬ S G) : HR W' G cap l := ⟨hk.heap h.1 hS, h.2⟩
theorem HR.append {W : World} {G cap : Nat} {l : List Value} (h : HR W G cap l) (i : Nat) (a : Addr) (m c : Nat) (news : List Value) (hl : news.length = m * 3) (hn : ∀ j u, news[j]? = some u → W.cell? (a.add j) = some u) (h1 : ∀ u ∈ news, u.oneCell' = true) (hr : i + m ≤ cap) (ty : TypeId) :
    (Builtin.append_ #[30, 30] ty #[.slice (some ⟨G, 0, none⟩) i cap, .slice (some a) m c]).run Tryz.prog W = .ok (.slice (some ⟨G, 0, none⟩) (i + m) cap) (W.setRow G (splice l (i * 3) news).toArray) := by
  obtain ⟨i0, hi, hz0, hz1, hz2⟩ := info_parts infoP
  have := run_append_room (P := Tryz.prog) W 30 ty 53 i0 Tryz.underlying30 hi G i cap l.toArray h.1 a m c news (by rw [hz1]; exact hl) hn h1 hr (by rw [hz1, hl]; simp [h.2]; omega)
  rw [hz1] at this
  exact this
def zerosP : List Value := [.string ⟨#[]⟩, .slice none 0 0, .bool false]
theorem HR.clear {W : World} {G cap : Nat} {l : List Value} (h : HR W G cap l) (o c : Nat) (ho : o + 3 ≤ l.length) (ty : TypeId) :
    (Builtin.clear_ #[30] ty #[.slice (some ⟨G, o, none⟩) 1 c]).run Tryz.prog W = .ok (.tuple #[]) (W.setRow G (splice l o zerosP).toArray) := by
  obtain ⟨i0, hi, hz0, hz1, hz2⟩ := info_parts infoP
  have hst := run_storeCells_at Tryz.prog G o 53 zerosP 0 l.toArray W h.1 (by simpa [zerosP] using ho) (by simp [zerosP, Value.oneCell'])
  simp only [Nat.add_zero] at hst
  have hz : (Builtin.zeroCells (Value.cells (.agg #[.string ⟨#[]⟩, .slice none 0 0, .bool false])) 1).toList = zerosP := by kernel_rfl
  simp [Builtin.clear_, run_underlying Tryz.underlying30, zeroValue, typeInfo, hi, hz0, hz, hst, splice]
theorem HR.copy {W : World} {G cap : Nat} {l : List Value} (h : HR W G cap l) (o dLen dCap : Nat) (a : Addr) (sLen sCap : Nat) (cs : List Value) (hl : cs.length = Nat.min sLen dLen * 3) (hn : ∀ j u, cs[j]? = some u → W.cell? (a.add j) = some u) (h1 : ∀ u ∈ cs, u.oneCell' = true) (ho : o + cs.length ≤ l.length) (ty : TypeId) :
    (Builtin.copy_ #[30, 30] ty #[.slice (some ⟨G, o, none⟩) dLen dCap, .slice (some a) sLen sCap]).run Tryz.prog W = .ok (goInt (Nat.min sLen dLen)) (W.setRow G (splice l o cs).toArray) := by
  obtain ⟨i0, hi, hz0, hz1, hz2⟩ := info_parts infoP
  have hf := run_loadCells_list (P := Tryz.prog) W a cs hn
  have hst := run_storeCells_at Tryz.prog G o 53 cs 0 l.toArray W h.1 (by simpa using ho) h1
  simp only [Nat.add_zero] at hst
  simp [Builtin.copy_, run_underlying Tryz.underlying30, Builtin.lenOf, Builtin.firstCells, sizeOf, typeInfo, hi, hz1, ← hl, hf, hst, splice]
theorem slice3_ok (A : Option Addr) (i j n c : Nat) (h1 : i ≤ j) (h2 : j ≤ n) (h3 : n ≤ c) : ∃ X, ∀ W, (Instr.slice 30 (.slice A n c) (some (.int .i64 i)) (some (.int .i64 j)) (some (.int .i64 n))).run Tryz.prog W = .ok X W := by
  have hsz : ∀ W, (sizeOf 53).run Tryz.prog W = .ok 3 W := fun W => by kernel_rfl
  have e1 : (0 : Int) ≤ (n : Int) ∧ (n : Int) ≤ (c : Int) := by omega
  have e2 : (0 : Int) ≤ (j : Int) ∧ (j : Int) ≤ (n : Int) := by omega
  have e3 : (0 : Int) ≤ (i : Int) ∧ (i : Int) ≤ (j : Int) := by omega
  refine ⟨.slice (if n = i then A else A.map (·.add (i * 3))) (j - i) (n - i), fun W => ?_⟩
  simp only [Instr.slice, Sem.run_bind, run_underlying Tryz.underlying30, Result.andThen, Instr.sliceBounds, Instr.sliceBound, asIntOf, Sem.run_pure, if_pos e1, if_pos e2, if_pos e3, hsz, Int.toNat_natCast]
/-- s[lo:hi] where something is left. -/
theorem slice_mid (G i j n c : Nat) (h1 : i < j) (h2 : j ≤ c) (W : World) : (Instr.slice 30 (.slice (some ⟨G, 0, none⟩) n c) (some (.int .i64 i)) (some (.int .i64 j)) none).run Tryz.prog W = .ok (.slice (some ⟨G, i * 3, none⟩) (j - i) (c - i)) W := by
  have hsz : ∀ W, (sizeOf 53).run Tryz.prog W = .ok 3 W := fun W => by kernel_rfl
  have e2 : (0 : Int) ≤ (j : Int) ∧ (j : Int) ≤ (c : Int) := by omega
  have e3 : (0 : Int) ≤ (i : Int) ∧ (i : Int) ≤ (j : Int) := by omega
  simp only [Instr.slice, Sem.run_bind, run_underlying Tryz.underlying30, Result.andThen, Instr.sliceBounds, Instr.sliceBound, asIntOf, Sem.run_pure, if_pos e2, if_pos e3, hsz, Int.toNat_natCast]
  have h9 : ¬ c = i := by omega
  have h8 : (⟨G, 0, none⟩ : Addr).add (i * 3) = ⟨G, i * 3, none⟩ := by unfold Addr.add; split <;> simp_all
  simp [h9, h8]
theorem cellsP_take (qs : List PV) (i : Nat) : (cellsP qs).take (i * 3) = cellsP (qs.take i) := by
  conv => lhs; rw [← List.take_append_drop i qs, cellsP_append]
  rcases Nat.le_total i qs.length with h | h
  · rw [List.take_left' (by rw [cellsP_len, List.length_take]; omega)]
  · rw [List.take_of_length_le (by rw [List.length_append, cellsP_len, cellsP_len, List.length_take, List.length_drop]; omega), List.drop_eq_nil_of_le h]
    simp [cellsP]
theorem take_cells {l : List Value} {qs : List PV} (h : l.take (3 * qs.length) = cellsP qs) (i : Nat) (hi : i ≤ qs.length) : l.take (i * 3) = cellsP (qs.take i) := by
  rw [← cellsP_take, ← h, List.take_take, Nat.min_eq_left (by omega)]
/-- What Delete leaves of the row. -/
theorem del_cells {l : List Value} {qs : List PV} {cap i : Nat} (h : l.take (3 * qs.length) = cellsP qs) (hl : l.length = cap * 3) (hc : qs.length ≤ cap) (hi : i < qs.length) :
    (splice (splice l (i * 3) (cellsP (qs.drop (i + 1)))) ((qs.length - 1) * 3) zerosP).take (3 * (qs.take i ++ qs.drop (i + 1)).length) = cellsP (qs.take i ++ qs.drop (i + 1)) := by
  have hlen : (qs.take i ++ qs.drop (i + 1)).length = qs.length - 1 := by simp only [List.length_append, List.length_take, List.length_drop]; omega
  have h1 : (splice l (i * 3) (cellsP (qs.drop (i + 1)))).take ((qs.length - 1) * 3) = cellsP (qs.take i ++ qs.drop (i + 1)) := by
    unfold splice
    rw [List.take_left' (by simp only [List.length_append, List.length_take, cellsP_len, List.length_drop]; omega), take_cells h i (by omega), cellsP_append]
  rw [hlen, Nat.mul_comm 3]
  unfold splice at *
  rw [List.append_assoc, List.take_left' (by simp only [List.length_append, List.length_take, cellsP_len, List.length_drop]; omega), h1]
/-- The row as it lies, and back. -/
theorem HR.of_own {w : World} {base G n cap : Nat} {qs : List PV} (h : w.ownsRow base 53 3 (.slice (some ⟨G, 0, none⟩) n cap) n (cellsP qs)) : base ≤ G ∧ n ≤ cap ∧ cap ≤ maxLen ∧ n = qs.length ∧ ∃ l, HR w G cap l ∧ l.take (3 * qs.length) = cellsP qs := by
  have hn : n = qs.length := by have := h.1; rw [cellsP_len] at this; omega
  rcases h.2 with ⟨hv, _⟩ | ⟨g, cap', cur, hv, hb, hh, hsz, hc, h63, ht⟩
  · cases hv
  · simp only [Value.slice.injEq, Option.some.injEq, Addr.mk.injEq] at hv
    obtain ⟨⟨rfl, -⟩, -, rfl⟩ := hv
    exact ⟨hb, hsz, hc, hn, cur.toList, ⟨by simpa using hh, by simpa using h63⟩, by rw [← hn, Nat.mul_comm]; exact ht⟩
theorem HR.own {w : World} {base G cap : Nat} {l : List Value} {qs : List PV} (h : HR w G cap l) (hb : base ≤ G) (hc : qs.length ≤ cap) (hm : cap ≤ maxLen) (ht : l.take (3 * qs.length) = cellsP qs) : w.ownsRow base 53 3 (.slice (some ⟨G, 0, none⟩) qs.length cap) qs.length (cellsP qs) :=
  ⟨by rw [cellsP_len]; omega, .inr ⟨G, cap, l.toArray, rfl, hb, h.1, hc, hm, by simpa using h.2, by rw [Nat.mul_comm]; exact ht⟩⟩
/-- A builtin whose run is known, at a step of a region that draws; in a list of operations. -/
theorem step_append_run {w : World} {ops : Array Oper} {o : Oper} {a : Act} {K : Act → World → Prop} {Q : Exit → Act → World → Prop} {E : Prop} (hgd : o.guard = none) (s x : Operand) (t1 t2 : TypeId)
    (ho : o.op = .call { callee := .builtin .append, args := #[s, x], argTypes := #[t1, t2] }) (vs vx : Value) (hs : a.eval s = vs) (hx : a.eval x = vx) (v' : Value) (w' : World)
    (hrun : ∀ ty, (Builtin.append_ #[t1, t2] ty #[vs, vx]).run Tryz.prog w = .ok v' w') (h : K (a.put o.dst v') w') : if Region.wanted o (yielded ops a.tmps) = true then Oper.wp Tryz.prog o a w K Q else E := by
  have hw : Region.wanted o (yielded ops a.tmps) = true := by simp [Region.wanted, hgd]
  rw [if_pos hw]
  unfold Oper.wp
  simp [execOp, ho, resolve, invoke, builtin, hs, hx, hrun, Result.andThen]
  exact h
theorem step_copy_run {w : World} {ops : Array Oper} {o : Oper} {a : Act} {K : Act → World → Prop} {Q : Exit → Act → World → Prop} {E : Prop} (hgd : o.guard = none) (s x : Operand) (t1 t2 : TypeId)
    (ho : o.op = .call { callee := .builtin .copy, args := #[s, x], argTypes := #[t1, t2] }) (vs vx : Value) (hs : a.eval s = vs) (hx : a.eval x = vx) (v' : Value) (w' : World)
    (hrun : ∀ ty, (Builtin.copy_ #[t1, t2] ty #[vs, vx]).run Tryz.prog w = .ok v' w') (h : K (a.put o.dst v') w') : if Region.wanted o (yielded ops a.tmps) = true then Oper.wp Tryz.prog o a w K Q else E := by
  have hw : Region.wanted o (yielded ops a.tmps) = true := by simp [Region.wanted, hgd]
  rw [if_pos hw]
  unfold Oper.wp
  simp [execOp, ho, resolve, invoke, builtin, hs, hx, hrun, Result.andThen]
  exact h
end Go.Proofs.YtcifhfdjigfeiaaGreatDoor
end

/-! slices.Delete of one pair. -/
section
set_option linter.unusedVariables false
set_option linter.unusedSimpArgs false
namespace Go.Proofs.YtcifhfdjigfeiaaGreatDoor
open Go.RowKit

theorem cellsP_drop (qs : List PV) (i : Nat) : cellsP (qs.drop i) = (cellsP qs).drop (i * 3) := by
  have h := cellsP_append (qs.take i) (qs.drop i)
  rw [List.take_append_drop, ← cellsP_take] at h
  have h2 := List.take_append_drop (i * 3) (cellsP qs)
  exact (List.append_cancel_left (h2.trans h)).symm
theorem add_addN (ad : Addr) (k j : Nat) (hs : ad.spot = none) : (ad.add k).add j = ad.add (k + j) := by
  obtain ⟨b, o, s⟩ := ad
  simp only at hs
  subst hs
  unfold Addr.add
  by_cases h1 : k = 0 <;> by_cases h2 : j = 0
  · subst h1; subst h2; simp
  · subst h1; simp [h2]
  · subst h2; simp [h1]
  · rw [if_neg (by omega), if_neg (by omega), if_neg (by omega)]
    simp only [Addr.mk.injEq, true_and, and_true]
    omega
theorem from_some (G l k c : Nat) (qs : List PV) (hl : l = qs.length) (hk : k ≤ l) (hc : l ≤ c) :
    ∃ a2, (∀ W, (Instr.slice 30 (.slice (some ⟨G, 0, none⟩) l c) (some (.int .i64 k)) none none).run Tryz.prog W = .ok (.slice (some a2) (l - k) (c - k)) W) ∧ (∀ W, Cs W (some ⟨G, 0, none⟩) (cellsP qs) → Cs W (some a2) (cellsP (qs.drop k))) ∧ l - k = (qs.drop k).length := by
  by_cases h0 : c = k
  · refine ⟨⟨G, 0, none⟩, fun W => by rw [slice_fromP W _ l k c hk hc, if_pos h0], fun W h => ?_, by rw [List.length_drop, hl]⟩
    have : qs.drop k = [] := List.drop_eq_nil_of_le (by omega)
    rw [this]
    exact ⟨(fun e => by cases e), fun ad e j u hu => by simp [cellsP] at hu⟩
  · refine ⟨(⟨G, 0, none⟩ : Addr).add (k * 3), fun W => by rw [slice_fromP W _ l k c hk hc, if_neg h0]; rfl, fun W h => ?_, by rw [List.length_drop, hl]⟩
    refine ⟨(fun e => by cases e), fun ad e j u hu => ?_⟩
    injection e with e
    subst e
    rw [add_addN _ _ _ rfl]
    exact h.2 _ rfl _ u (by rw [cellsP_drop, List.getElem?_drop] at hu; exact hu)
theorem HR.cs {W : World} {G cap : Nat} {l : List Value} {qs : List PV} (h : HR W G cap l) (ht : l.take (3 * qs.length) = cellsP qs) : Cs W (some ⟨G, 0, none⟩) (cellsP qs) := by
  refine ⟨(fun e => by cases e), fun ad e j u hu => ?_⟩
  injection e with e
  subst e
  have h8 : (⟨G, 0, none⟩ : Addr).add j = ⟨G, j, none⟩ := by unfold Addr.add; split <;> simp_all
  rw [h8]
  rw [← ht, List.getElem?_take] at hu
  split at hu
  · simp [World.cell?, h.1, hu]
  · cases hu
set_option maxRecDepth 100000 in
set_option maxHeartbeats 4000000 in
theorem deleteP_any (w : World) (base G n cap i j : Nat) (qs : List PV) (h : w.ownsRow base 53 3 (.slice (some ⟨G, 0, none⟩) n cap) n (cellsP qs)) (hi : i < n) (hj : j = i + 1) (hn9 : n ≤ 1000000) :
    Calls Tryz.prog 56 #[.slice (some ⟨G, 0, none⟩) n cap, .int .i64 i, .int .i64 j] w fun e w' => e = .returned (.slice (some ⟨G, 0, none⟩) (n - 1) cap) ∧ w'.ownsRow base 53 3 (.slice (some ⟨G, 0, none⟩) (n - 1) cap) (n - 1) (cellsP (qs.take i ++ qs.drop (i + 1))) ∧ Kept (fun k => k = G) w w' := by
  obtain ⟨hb, hc, hm, hnq, l, hH, ht⟩ := HR.of_own h
  obtain ⟨X, hX⟩ := slice3_ok (some ⟨G, 0, none⟩) i j n cap (by omega) (by omega) hc
  obtain ⟨a2, hs2, hp2, hl2⟩ := from_some G n j cap qs hnq (by omega) hc
  have hs1 := fun W => slice_toP W (some ⟨G, 0, none⟩) n i cap (by omega)
  have hlen : (cellsP (qs.drop j)).length = (n - j) * 3 := by rw [cellsP_len, hl2]; omega
  have hput := hH.put (o := i * 3) (vs := cellsP (qs.drop j)) (by rw [hlen, hH.2]; omega)
  have hHd : HR w.drew G cap l := hH
  have hputd := hHd.put (o := i * 3) (vs := cellsP (qs.drop j)) (by rw [hlen, hH.2]; omega)
  have hap := fun ty => hHd.append i a2 (n - j) (cap - j) (cellsP (qs.drop j)) hlen ((hp2 w.drew (hHd.cs ht)).2 a2 rfl) (cellsP_one _) (by omega) ty
  obtain ⟨W1, hW1⟩ : ∃ W1, W1 = w.drew.setRow G (splice l (i * 3) (cellsP (qs.drop j))).toArray := ⟨_, rfl⟩
  rw [← hW1] at hputd hap
  have e1 : i + (n - j) = n - 1 := by omega
  rw [e1] at hap
  obtain ⟨m, hmm⟩ : ∃ m, m = n - 1 := ⟨_, rfl⟩
  have hmid := fun W => slice_mid G m n (n - 1) cap (by omega) hc W
  have hcl := fun ty => hputd.1.clear (m * 3) (cap - m) (by rw [splice_len (by rw [hlen, hH.2]; omega), hH.2]; omega) ty
  have hput2 := hputd.1.put (o := m * 3) (vs := zerosP) (by rw [splice_len (by rw [hlen, hH.2]; omega), hH.2]; simp [zerosP]; omega)
  obtain ⟨W2, hW2⟩ : ∃ W2, W2 = W1.setRow G (splice (splice l (i * 3) (cellsP (qs.drop j))) (m * 3) zerosP).toArray := ⟨_, rfl⟩
  rw [← hW2] at hput2 hcl
  have HEnd : Hid (W2.ownsRow base 53 3 (.slice (some ⟨G, 0, none⟩) m cap) m (cellsP (qs.take i ++ qs.drop (i + 1))) ∧ Kept (fun k => k = G) w W2) := Lib.hid (by
    have hlq : (qs.take i ++ qs.drop (i + 1)).length = m := by simp only [List.length_append, List.length_take, List.length_drop]; omega
    have hd := del_cells ht hH.2 (by omega) (show i < qs.length by omega)
    rw [← hj, show qs.length - 1 = m by omega] at hd
    have := hput2.1.own hb (by rw [← hj] at hlq; rw [hlq]; omega) hm hd
    rw [← hj] at hlq ⊢
    rw [hlq] at this
    exact ⟨this, ((Kept.refl (fun k => k = G) w).drew.trans' hputd.2).trans' hput2.2⟩)
  rw [← hmm] at hap ⊢
  rw [show n - m = 1 by omega] at hmid
  rw [← hmm] at hmid
  have hij : ¬ (i : Int) = (j : Int) := by omega
  obtain ⟨A, hA⟩ : ∃ A : Option Addr, A = some ⟨G, 0, none⟩ := ⟨_, rfl⟩
  rw [← hA] at hX hs1 hs2 hap hmid ⊢
  have HA := Lib.hid hA
  have hicap : (i : Int) ≤ (cap : Int) := by omega
  have Hap := Lib.hid hap
  clear hH hHd hput hputd hput2 hap hp2 hl2 h ht hlen hW1 hW2 hmm e1 hj hnq hA
  go_enter Tryz.func56, Tryz.ntmps56
  go_upto_region 5 with fail
  go_region_law (refine step_append_run rfl _ _ 30 30 rfl _ _ rfl rfl _ _ Hap.out ?_)
  all_goals
    go_wp2
    go_ret
    exact ⟨rfl, by have := HEnd.out; rw [← HA.out] at this; exact this⟩
end Go.Proofs.YtcifhfdjigfeiaaGreatDoor
end

/-! slices.Insert of one pair: what it leaves (plain), its steps as run equations. -/
section
set_option linter.unusedVariables false
set_option linter.unusedSimpArgs false
namespace Go.Proofs.YtcifhfdjigfeiaaGreatDoor
open Go.RowKit

theorem cellsP_single (p : PV) : cellsP [p] = p.cells := by simp [cellsP]
/-- First what is moved, then the new one. -/
theorem ins_cells {l : List Value} {qs : List PV} {cap i : Nat} (p : PV) (h : l.take (3 * qs.length) = cellsP qs) (hl : l.length = cap * 3) (hc : qs.length + 1 ≤ cap) (hi : i ≤ qs.length) :
    (splice (splice l ((i + 1) * 3) (cellsP (qs.drop i))) (i * 3) p.cells).take (3 * (qs.take i ++ [p] ++ qs.drop i).length) = cellsP (qs.take i ++ [p] ++ qs.drop i) := by
  have hlen : (qs.take i ++ [p] ++ qs.drop i).length = qs.length + 1 := by simp only [List.length_append, List.length_take, List.length_drop, List.length_cons, List.length_nil]; omega
  have hp : p.cells.length = 3 := rfl
  have h1 : (splice l ((i + 1) * 3) (cellsP (qs.drop i))).take (i * 3) = cellsP (qs.take i) := by
    unfold splice
    rw [List.append_assoc, List.take_append_of_le_length (by rw [List.length_take]; omega), List.take_take, Nat.min_eq_left (by omega), take_cells h i hi]
  have h2 : (splice l ((i + 1) * 3) (cellsP (qs.drop i))).drop (i * 3 + p.cells.length) = cellsP (qs.drop i) ++ l.drop ((i + 1) * 3 + (cellsP (qs.drop i)).length) := by
    unfold splice
    rw [List.append_assoc, List.drop_left' (by rw [List.length_take, hp]; omega)]
  rw [hlen]
  unfold splice at h1 h2 ⊢
  rw [h1, h2, ← List.append_assoc, ← cellsP_single p, ← cellsP_append, ← cellsP_append, List.take_left' (by rw [cellsP_len, hlen])]
/-- First the new one, then what is moved, from elsewhere. -/
theorem ins_cells2 {l : List Value} {qs : List PV} {cap i : Nat} (p : PV) (h : l.take (i * 3) = cellsP (qs.take i)) (hl : l.length = cap * 3) (hc : qs.length + 1 ≤ cap) (hi : i ≤ qs.length) :
    (splice (splice l (i * 3) p.cells) ((i + 1) * 3) (cellsP (qs.drop i))).take (3 * (qs.take i ++ [p] ++ qs.drop i).length) = cellsP (qs.take i ++ [p] ++ qs.drop i) := by
  have hlen : (qs.take i ++ [p] ++ qs.drop i).length = qs.length + 1 := by simp only [List.length_append, List.length_take, List.length_drop, List.length_cons, List.length_nil]; omega
  have hp : p.cells.length = 3 := rfl
  have h1 : (splice l (i * 3) p.cells).take ((i + 1) * 3) = cellsP (qs.take i ++ [p]) := by
    unfold splice
    rw [List.take_left' (by rw [List.length_append, List.length_take, hp]; omega), h, cellsP_append, cellsP_single]
  rw [hlen]
  have h9 : splice (splice l (i * 3) p.cells) ((i + 1) * 3) (cellsP (qs.drop i)) = cellsP (qs.take i ++ [p]) ++ cellsP (qs.drop i) ++ (splice l (i * 3) p.cells).drop ((i + 1) * 3 + (cellsP (qs.drop i)).length) := by
    conv => lhs; unfold splice
    rw [show List.take (i * 3) l ++ p.cells ++ List.drop (i * 3 + p.cells.length) l = splice l (i * 3) p.cells from rfl, h1]
  rw [h9, ← cellsP_append, List.take_left' (by rw [cellsP_len, hlen])]
/-- append(s, make([]T, k)...) where there is no room. -/
theorem append_zeros (w : World) (b : Addr) (sLen sCap k : Nat) (olds : List Value) (hlo : olds.length = sLen * 3) (holds : ∀ j v, olds[j]? = some v → w.cell? (b.add j) = some v) (hk : 0 < k) (hg : sCap < sLen + k) (h63 : sLen + k ≤ 1000001) (hsc : sCap ≤ 1000000) :
    ∃ (cap' : Nat) (l : List Value), (∀ ty, (Builtin.append_ #[30, 3] ty #[.slice (some b) sLen sCap, .int .i64 k]).run Tryz.prog w = .ok (.slice (some ⟨w.heap.size, 0, none⟩) (sLen + k) cap') (w.drew.alloc (.cells l.toArray 53))) ∧ sLen + k ≤ cap' ∧ cap' ≤ maxLen ∧ l.length = cap' * 3 ∧ l.take (sLen * 3) = olds := by
  obtain ⟨i0, hi, hz0, hz1, hz2⟩ := info_parts infoP
  have hn : ¬ (sLen + k ≤ sCap) := by omega
  have hw : IntKind.i64.wrap (k : Int) = k := by rw [IntKind.wrap_i64]; omega
  have h63' : ¬ (9223372036854775807 < ((sLen : Int) + (k : Int))) := by omega
  have h48' : ¬ (281474976710656 < Builtin.nextslicecap (sLen + k) sCap * 48) := by
    have := nextslicecap_le (need := sLen + k) (old := sCap) (by omega)
    omega
  have h48i : ¬ (281474976710656 < (k : Int) * 48) := by omega
  have hneg : ¬ ((k : Int) < 0) := by omega
  have hk0 : ¬ k = 0 := by omega
  have hfo := run_firstCells_some (P := Tryz.prog) w.drew 3 sLen b sLen sCap olds hlo (by simpa using holds)
  have harr : ∀ (Z Y : Array Value), olds.toArray ++ (Z ++ Y) = (olds ++ (Z.toList ++ Y.toList)).toArray := fun Z Y => by apply Array.ext'; simp
  refine ⟨grownCap w (sLen + k) sCap 53, olds ++ (Builtin.zeroCells (Value.cells (.agg #[.string ⟨#[]⟩, .slice none 0 0, .bool false])) k).toList ++ (Builtin.zeroCells (Value.cells (.agg #[.string ⟨#[]⟩, .slice none 0 0, .bool false])) (grownCap w (sLen + k) sCap 53 - (sLen + k))).toList, ?_, grownCap_ge _ _ _ _, grownCap_le_maxLen _ _ _ _ (by unfold maxLen; omega), ?_, ?_⟩
  · intro ty
    simp [Builtin.append_, run_underlying Tryz.underlying30, run_underlying Tryz.underlying3, sizeOf, typeInfo, zeroValue, hi, hz0, hz1, hz2, asInt, asIntOf, hw, hn, hneg, hk0, h63', h48', h48i, Question.forced, hfo, newRow, grownCap]
    rw [if_neg (by omega)]
    rw [harr]
  · have := grownCap_ge w (sLen + k) sCap 53
    simp only [List.length_append, Array.length_toList, size_zeroCells, hlo]
    have h3 : (Value.cells (.agg #[.string ⟨#[]⟩, .slice none 0 0, .bool false])).size = 3 := by kernel_rfl
    rw [h3]
    omega
  · rw [List.append_assoc, List.take_left' hlo]
end Go.Proofs.YtcifhfdjigfeiaaGreatDoor
end

/-! slices.Insert of one pair. -/
section
set_option linter.unusedVariables false
set_option linter.unusedSimpArgs false
namespace Go.Proofs.YtcifhfdjigfeiaaGreatDoor
open Go.RowKit

theorem nmin_r {a b : Nat} (h : b ≤ a) : Nat.min a b = b := Nat.min_eq_right h
theorem nmin_l {a b : Nat} (h : a ≤ b) : Nat.min a b = a := Nat.min_eq_left h
theorem slice_fromG (W : World) (G i l c : Nat) (h1 : i ≤ l) (h2 : l ≤ c) (h3 : i < c) : (Instr.slice 30 (.slice (some ⟨G, 0, none⟩) l c) (some (.int .i64 i)) none none).run Tryz.prog W = .ok (.slice (some ⟨G, i * 3, none⟩) (l - i) (c - i)) W := by
  rw [slice_fromP W _ l i c h1 h2, if_neg (by omega)]
  have h8 : (⟨G, 0, none⟩ : Addr).add (i * 3) = ⟨G, i * 3, none⟩ := by unfold Addr.add; split <;> simp_all
  simp [h8]
/-- A new pair in a block of its own. -/
def NewP (W : World) (B : Nat) (p : PV) : Prop := W.heap[B]? = some (.cells p.cells.toArray 53 (0, 0))
theorem NewP.cs {W : World} {B : Nat} {p : PV} (h : NewP W B p) : Cs W (some ⟨B, 0, none⟩) p.cells := by
  refine ⟨(fun e => by cases e), fun ad e j u hu => ?_⟩
  injection e with e
  subst e
  have h8 : (⟨B, 0, none⟩ : Addr).add j = ⟨B, j, none⟩ := by unfold Addr.add; split <;> simp_all
  rw [h8]
  simp [World.cell?, show W.heap[B]? = _ from h, hu]
theorem NewP.kept {S : Nat → Prop} {W W' : World} {B : Nat} {p : PV} (h : NewP W B p) (hk : Kept S W W') (hS : ¬ S B) : NewP W' B p := hk.heap h hS
theorem pcells_one (p : PV) : ∀ u ∈ p.cells, u.oneCell' = true := by
  intro u hu
  simp only [PV.cells, List.mem_cons, List.not_mem_nil, or_false] at hu
  rcases hu with rfl | rfl | rfl <;> rfl
set_option maxRecDepth 100000 in
set_option maxHeartbeats 4000000 in
theorem insert_end (w : World) (base n B : Nat) (v : Value) (qs : List PV) (p : PV) (h : w.ownsRow base 53 3 v n (cellsP qs)) (hok : ∀ q ∈ qs, q.Ok w) (hN : NewP w B p) (hbase : base ≤ w.heap.size) (hn9 : n ≤ 900000) :
    Calls Tryz.prog 57 #[v, .int .i64 n, .slice (some ⟨B, 0, none⟩) 1 1] w fun e w' => ∃ v', e = .returned v' ∧ w'.ownsRow base 53 3 v' (n + 1) (cellsP (qs ++ [p])) ∧ Kept (fun k => v.ownBlock = some k) w w' := by
  have hnq : n = qs.length := by have := h.1; rw [cellsP_len] at this; omega
  obtain ⟨A, c, hv, hA, hc, -, -, -⟩ := row_form (hnq ▸ h) hok
  rw [← hnq] at hv hc
  obtain ⟨A2, hs2, -, -, -, -⟩ := from_form A n n c qs hnq (Nat.le_refl _) hc hA
  have H := Lib.hid h
  have HN := Lib.hid hN
  have Hv := Lib.hid hv
  rw [hv]
  clear h hN hv hok hA hc hnq
  go_enter Tryz.func57, Tryz.ntmps57
  go_wp2_with (at_builtin; refine wpList_append_ps rfl _ _ rfl base _ n _ rfl (by rw [← Hv.out]; exact H.out) (some ⟨B, 0, none⟩) 1 1 p.cells rfl HN.out.cs rfl (pcells_one p) (fun e => by cases e) (by omega) hbase ?_; intro v' w1 hown hgrow)
  go_ret
  refine ⟨v', rfl, by rw [cellsP_append, cellsP_single]; exact hown, ?_⟩
  exact (Kept.refl _ w).grown hgrow fun k e _ => e
set_option maxRecDepth 100000 in
set_option maxHeartbeats 4000000 in
theorem insert_room (w : World) (base G n cap i B : Nat) (qs : List PV) (p : PV) (h : w.ownsRow base 53 3 (.slice (some ⟨G, 0, none⟩) n cap) n (cellsP qs)) (hN : NewP w B p) (hBG : B ≠ G) (hi : i < n) (hr : n + 1 ≤ cap) (hn9 : n ≤ 900000) :
    Calls Tryz.prog 57 #[.slice (some ⟨G, 0, none⟩) n cap, .int .i64 i, .slice (some ⟨B, 0, none⟩) 1 1] w fun e w' => ∃ v', e = .returned v' ∧ w'.ownsRow base 53 3 v' (n + 1) (cellsP (qs.take i ++ [p] ++ qs.drop i)) ∧ Kept (fun k => k = G) w w' := by
  obtain ⟨hb, hc, hm, hnq, l, hH, ht⟩ := HR.of_own h
  have hm9 : (cap : Int) ≤ 9223372036854775807 := by unfold maxLen at hm; omega
  obtain ⟨n1, hn1⟩ : ∃ n1, n1 = n + 1 := ⟨_, rfl⟩
  obtain ⟨i1, hi1⟩ : ∃ i1, i1 = i + 1 := ⟨_, rfl⟩
  obtain ⟨d, hd⟩ : ∃ d, d = n - i := ⟨_, rfl⟩
  obtain ⟨c0, hc0⟩ : ∃ c0, c0 = cap - i := ⟨_, rfl⟩
  obtain ⟨c1, hc1⟩ : ∃ c1, c1 = cap - i1 := ⟨_, rfl⟩
  obtain ⟨d1, hd1⟩ : ∃ d1, d1 = n1 - i := ⟨_, rfl⟩
  have hs1 := fun W => slice_fromG W G i n cap (by omega) hc (by omega)
  have hs13 := fun W => slice_toP W (some ⟨G, 0, none⟩) n n1 cap (by omega)
  have hs14 := fun W => slice_fromG W G i1 n1 cap (by omega) (by omega) (by omega)
  have hs15 := fun W => slice_fromG W G i n1 cap (by omega) (by omega) (by omega)
  rw [← hd, ← hc0] at hs1
  rw [show n1 - i1 = d by omega, ← hc1] at hs14
  rw [← hd1, ← hc0] at hs15
  have hlen : (cellsP (qs.drop i)).length = d * 3 := by rw [cellsP_len, List.length_drop]; omega
  have hl := hH.2
  have hHd : HR w.drew G cap l := hH
  have hcs : ∀ j u, (cellsP (qs.drop i))[j]? = some u → w.drew.cell? ((⟨G, i * 3, none⟩ : Addr).add j) = some u := by
    intro j u hu
    rw [cellsP_drop, List.getElem?_drop] at hu
    have := (hHd.cs ht).2 _ rfl _ u hu
    rw [← add_addN _ (i * 3) j rfl] at this
    rwa [show (⟨G, 0, none⟩ : Addr).add (i * 3) = ⟨G, i * 3, none⟩ by unfold Addr.add; split <;> simp_all] at this
  have hcp1 := fun ty => hHd.copy (i1 * 3) d c1 ⟨G, i * 3, none⟩ d1 c0 (cellsP (qs.drop i)) (by rw [hlen, nmin_r (by omega)]) hcs (cellsP_one _) (by rw [hlen]; omega) ty
  have hput1 := hHd.put (o := i1 * 3) (vs := cellsP (qs.drop i)) (by rw [hlen]; omega)
  have hl1 := hput1.1.2
  obtain ⟨W1, hW1⟩ : ∃ W1, W1 = w.drew.setRow G (splice l (i1 * 3) (cellsP (qs.drop i))).toArray := ⟨_, rfl⟩
  rw [← hW1] at hcp1 hput1
  have hN1 : NewP W1 B p := hN.kept ((Kept.refl (fun k => k = G) w).drew.trans' hput1.2) hBG
  have hp3 : p.cells.length = 3 := rfl
  have hcp2 := fun ty => hput1.1.copy (i * 3) d1 c0 ⟨B, 0, none⟩ 1 1 p.cells (by rw [hp3, nmin_l (by omega)]) (hN1.cs.2 _ rfl) (pcells_one p) (by rw [hp3, hl1]; omega) ty
  have hput2 := hput1.1.put (o := i * 3) (vs := p.cells) (by rw [hp3, hl1]; omega)
  obtain ⟨W2, hW2⟩ : ∃ W2, W2 = W1.setRow G (splice (splice l (i1 * 3) (cellsP (qs.drop i))) (i * 3) p.cells).toArray := ⟨_, rfl⟩
  rw [← hW2] at hcp2 hput2
  have hov : (callFunc 78 #[.slice (some ⟨B, 0, none⟩) 1 1, .slice (some ⟨G, i1 * 3, none⟩) d c1]).run Tryz.prog w = .ok (.value (.bool false)) w := by
    have h1 := Lib.run_overlaps_apart (P := Tryz.prog) w 30 4 53 Tryz.underlying30 3 (fun w => by kernel_rfl) ⟨B, 0, none⟩ ⟨G, i1 * 3, none⟩ 1 1 d c1 hBG 53 53 3 (cap * 3) (by simp [World.shape?, show w.heap[B]? = _ from hN]; rfl) (by simp [World.shape?, hH.1, hl]) (by omega) (by simp [World.frozen?, show w.heap[B]? = _ from hN]) (by simp [World.frozen?, show w.heap[B]? = _ from hN])
    rw [run_callFunc_extern Tryz.func78 (by kernel_rfl) (by kernel_rfl) (by kernel_rfl) (by kernel_rfl), h1]
    rfl
  have HEnd : Hid (W2.ownsRow base 53 3 (.slice (some ⟨G, 0, none⟩) n1 cap) n1 (cellsP (qs.take i ++ [p] ++ qs.drop i)) ∧ Kept (fun k => k = G) w W2) := Lib.hid (by
    have hlq : (qs.take i ++ [p] ++ qs.drop i).length = n1 := by simp only [List.length_append, List.length_take, List.length_drop, List.length_cons, List.length_nil]; omega
    have hdc := ins_cells p ht hl (by omega) (show i ≤ qs.length by omega)
    rw [← hi1] at hdc
    have := hput2.1.own hb (by rw [hlq]; omega) hm hdc
    rw [hlq] at this
    exact ⟨this, ((Kept.refl (fun k => k = G) w).drew.trans' hput1.2).trans' hput2.2⟩)
  obtain ⟨A, hA⟩ : ∃ A : Option Addr, A = some ⟨G, 0, none⟩ := ⟨_, rfl⟩
  obtain ⟨D, hD⟩ : ∃ D : Option Addr, D = some ⟨G, i1 * 3, none⟩ := ⟨_, rfl⟩
  obtain ⟨S, hS⟩ : ∃ S : Option Addr, S = some ⟨G, i * 3, none⟩ := ⟨_, rfl⟩
  obtain ⟨BB, hBB⟩ : ∃ BB : Option Addr, BB = some ⟨B, 0, none⟩ := ⟨_, rfl⟩
  rw [← hA] at hs1 hs13 hs14 hs15 HEnd ⊢
  rw [← hD] at hs14 hcp1 hov
  rw [← hS] at hs1 hs15 hcp1 hcp2
  rw [← hBB] at hcp2 hov ⊢
  have hin : ¬ (i : Int) = (n : Int) := by omega
  have hi1e : (i : Int) + 1 = (i1 : Int) := by omega
  have hn1e : (n : Int) + 1 = (n1 : Int) := by omega
  have hn1c : ¬ (cap : Int) < (n1 : Int) := by omega
  have hn1b : (n1 : Int) ≤ 1000000 := by omega
  have hin1 : (i : Int) ≤ (n1 : Int) := by omega
  have hi1b : (i1 : Int) ≤ 1000000 := by omega
  have hw1 : IntKind.i64.wrap (i1 : Int) = (i1 : Int) := by rw [IntKind.wrap_i64]; omega
  have Hcp1 := Lib.hid hcp1
  rw [← hn1]
  clear hH hHd hcs hput1 hput2 hl1 hN1 hN hp3 hlen ht h hW1 hW2 hA hD hS hBB hcp1 hn1 hi1 hd hc0 hc1 hd1 hm hl hnq hr hBG
  go_enter Tryz.func57, Tryz.ntmps57
  go_wp2_with fail
  go_region_held3 (fun _ => True) (trivial) (refine step_copy_run rfl _ _ 30 30 rfl _ _ rfl rfl _ _ Hcp1.out ?_)
  all_goals
    clear hov hs1 hs13 hs14 hi1e hn1e hn1c hn1b hi1b hw1 Hcp1
    have hii : (i : Int) ≤ (n1 : Int) := hin1
    go_wp2
    go_ret
    exact ⟨_, rfl, HEnd.out⟩
set_option maxRecDepth 100000 in
set_option maxHeartbeats 4000000 in
theorem insert_grow (w : World) (base G n i B : Nat) (qs : List PV) (p : PV) (h : w.ownsRow base 53 3 (.slice (some ⟨G, 0, none⟩) n n) n (cellsP qs)) (hN : NewP w B p) (hBG : B ≠ G) (hi : i < n) (hbase : base ≤ w.heap.size) (hn9 : n ≤ 900000) :
    Calls Tryz.prog 57 #[.slice (some ⟨G, 0, none⟩) n n, .int .i64 i, .slice (some ⟨B, 0, none⟩) 1 1] w fun e w' => ∃ v', e = .returned v' ∧ w'.ownsRow base 53 3 v' (n + 1) (cellsP (qs.take i ++ [p] ++ qs.drop i)) ∧ Kept (fun k => k = G) w w' := by
  obtain ⟨hb, hc, hm, hnq, l0, hH, ht⟩ := HR.of_own h
  have hG9 : G < w.heap.size := (Array.getElem?_eq_some_iff.1 hH.1).1
  obtain ⟨n1, hn1⟩ : ∃ n1, n1 = n + 1 := ⟨_, rfl⟩
  obtain ⟨i1, hi1⟩ : ∃ i1, i1 = i + 1 := ⟨_, rfl⟩
  obtain ⟨d, hd⟩ : ∃ d, d = n - i := ⟨_, rfl⟩
  obtain ⟨d1, hd1⟩ : ∃ d1, d1 = n1 - i := ⟨_, rfl⟩
  have hcs0 := (hH.cs ht).2 _ rfl
  obtain ⟨cap, l, hap, hc1, hcm, hl, htk⟩ := append_zeros w ⟨G, 0, none⟩ i n d1 (cellsP (qs.take i)) (by rw [cellsP_len, List.length_take]; omega) (fun j u hu => hcs0 j u (by rw [← cellsP_take, List.getElem?_take] at hu; split at hu; exact hu; cases hu)) (by omega) (by omega) (by omega) (by omega)
  rw [show i + d1 = n1 by omega] at hap hc1
  have hm9 : (cap : Int) ≤ 9223372036854775807 := by unfold maxLen at hcm; omega
  obtain ⟨N, hN0⟩ : ∃ N, N = w.heap.size := ⟨_, rfl⟩
  obtain ⟨W1, hW1⟩ : ∃ W1, W1 = w.drew.alloc (.cells l.toArray 53) := ⟨_, rfl⟩
  have hH1 : HR W1 N cap l := ⟨by rw [hW1, hN0]; exact heap_alloc_new w.drew _, hl⟩
  have hk1 : Kept (fun _ => False) w W1 := by rw [hW1]; exact (Kept.refl _ w).drew.alloc _
  rw [← hN0, ← hW1] at hap
  obtain ⟨c0, hc0⟩ : ∃ c0, c0 = cap - i := ⟨_, rfl⟩
  obtain ⟨c1, hc1'⟩ : ∃ c1, c1 = cap - i1 := ⟨_, rfl⟩
  have hs1 := fun W => slice_fromG W G i n n (by omega) (by omega) (by omega)
  have hs9 := fun W => slice_toP W (some ⟨G, 0, none⟩) n i n (by omega)
  have hs10 := fun W => slice_fromG W N i n1 cap (by omega) (by omega) (by omega)
  have hs11 := fun W => slice_fromG W N i1 n1 cap (by omega) (by omega) (by omega)
  rw [← hd] at hs1
  rw [← hd1, ← hc0] at hs10
  rw [show n1 - i1 = d by omega, ← hc1'] at hs11
  have hN1 : NewP W1 B p := hN.kept hk1 (by simp)
  have hp3 : p.cells.length = 3 := rfl
  have hcp1 := fun ty => hH1.copy (i * 3) d1 c0 ⟨B, 0, none⟩ 1 1 p.cells (by rw [hp3, nmin_l (by omega)]) (hN1.cs.2 _ rfl) (pcells_one p) (by rw [hp3, hl]; omega) ty
  have hput1 := hH1.put (o := i * 3) (vs := p.cells) (by rw [hp3, hl]; omega)
  have hl1 := hput1.1.2
  obtain ⟨W2, hW2⟩ : ∃ W2, W2 = W1.setRow N (splice l (i * 3) p.cells).toArray := ⟨_, rfl⟩
  rw [← hW2] at hcp1 hput1
  have hk2 : Kept (fun k => k = N) w W2 := (hk1.mono fun _ _ h => h.elim).trans' hput1.2
  have hH2 : HR W2.drew N cap (splice l (i * 3) p.cells) := hput1.1
  have hlen : (cellsP (qs.drop i)).length = d * 3 := by rw [cellsP_len, List.length_drop]; omega
  have hHG : HR W2.drew G n l0 := hH.kept hk2.drew (by omega)
  have hcs : ∀ j u, (cellsP (qs.drop i))[j]? = some u → W2.drew.cell? ((⟨G, i * 3, none⟩ : Addr).add j) = some u := by
    intro j u hu
    rw [cellsP_drop, List.getElem?_drop] at hu
    have := (hHG.cs ht).2 _ rfl _ u hu
    rw [← add_addN _ (i * 3) j rfl] at this
    rwa [show (⟨G, 0, none⟩ : Addr).add (i * 3) = ⟨G, i * 3, none⟩ by unfold Addr.add; split <;> simp_all] at this
  have hcp2 := fun ty => hH2.copy (i1 * 3) d c1 ⟨G, i * 3, none⟩ d d (cellsP (qs.drop i)) (by rw [hlen, nmin_r (by omega)]) hcs (cellsP_one _) (by rw [hlen, hl1]; omega) ty
  have hput2 := hH2.put (o := i1 * 3) (vs := cellsP (qs.drop i)) (by rw [hlen, hl1]; omega)
  obtain ⟨W3, hW3⟩ : ∃ W3, W3 = W2.drew.setRow N (splice (splice l (i * 3) p.cells) (i1 * 3) (cellsP (qs.drop i))).toArray := ⟨_, rfl⟩
  rw [← hW3] at hcp2 hput2
  have HEnd : Hid (W3.ownsRow base 53 3 (.slice (some ⟨N, 0, none⟩) n1 cap) n1 (cellsP (qs.take i ++ [p] ++ qs.drop i)) ∧ Kept (fun k => k = G) w W3) := Lib.hid (by
    have hlq : (qs.take i ++ [p] ++ qs.drop i).length = n1 := by simp only [List.length_append, List.length_take, List.length_drop, List.length_cons, List.length_nil]; omega
    have hdc := ins_cells2 p htk hl (by omega) (show i ≤ qs.length by omega)
    rw [← hi1] at hdc
    have := hput2.1.own (base := base) (by omega) (by rw [hlq]; omega) hcm hdc
    rw [hlq] at this
    exact ⟨this, ((hk2.drew.trans' hput2.2).mono fun k hk e => by omega)⟩)
  obtain ⟨A, hA⟩ : ∃ A : Option Addr, A = some ⟨G, 0, none⟩ := ⟨_, rfl⟩
  obtain ⟨AN, hAN⟩ : ∃ AN : Option Addr, AN = some ⟨N, 0, none⟩ := ⟨_, rfl⟩
  obtain ⟨D, hD⟩ : ∃ D : Option Addr, D = some ⟨N, i1 * 3, none⟩ := ⟨_, rfl⟩
  obtain ⟨E, hE⟩ : ∃ E : Option Addr, E = some ⟨N, i * 3, none⟩ := ⟨_, rfl⟩
  obtain ⟨S, hS⟩ : ∃ S : Option Addr, S = some ⟨G, i * 3, none⟩ := ⟨_, rfl⟩
  obtain ⟨BB, hBB⟩ : ∃ BB : Option Addr, BB = some ⟨B, 0, none⟩ := ⟨_, rfl⟩
  rw [← hA] at hs1 hs9 hap ⊢
  rw [← hAN] at hap hs10 hs11 HEnd
  rw [← hD] at hs11 hcp2
  rw [← hE] at hs10 hcp1
  rw [← hS] at hs1 hcp2
  rw [← hBB] at hcp1 ⊢
  have hin : ¬ (i : Int) = (n : Int) := by omega
  have hi1e : (i : Int) + 1 = (i1 : Int) := by omega
  have hn1e : (n : Int) + 1 = (n1 : Int) := by omega
  have hn1c : (n : Int) < (n1 : Int) := by omega
  have hdd : (n1 : Int) - (i : Int) = (d1 : Int) := by omega
  have hn1b : (n1 : Int) ≤ 1000000 := by omega
  have hi1b : (i1 : Int) ≤ 1000000 := by omega
  have hin1 : (i : Int) ≤ (n1 : Int) := by omega
  have hw1 : IntKind.i64.wrap (i1 : Int) = (i1 : Int) := by rw [IntKind.wrap_i64]; omega
  have Hap := Lib.hid hap
  have Hcp2 := Lib.hid hcp2
  rw [← hn1]
  clear hH hH1 hH2 hHG hcs hcs0 hput1 hput2 hl1 hN1 hN hp3 hlen ht h hW1 hW2 hW3 hA hAN hD hE hS hBB hcp2 hap hn1 hi1 hd hc0 hc1 hc1' hd1 hm hl hnq hBG hG9 hN0 hk1 hk2 htk hcm
  go_enter Tryz.func57, Tryz.ntmps57
  go_upto_region 11 with (at_builtin; refine Lib.wpList_append_run _ rfl _ _ 30 3 rfl _ _ rfl rfl _ _ (Hap.out _) ?_)
  go_region_held3 (fun _ => True) (trivial) (refine step_copy_run rfl _ _ 30 30 rfl _ _ rfl rfl _ _ Hcp2.out ?_)
  all_goals
    clear hs1 hs9 hs10 hs11 hi1e hn1e hn1c hn1b hi1b hw1 Hcp2 Hap hdd
    go_wp2
    go_ret
    exact ⟨_, rfl, HEnd.out⟩
theorem insertP_any (w : World) (base n i B : Nat) (v : Value) (qs : List PV) (p : PV) (h : w.ownsRow base 53 3 v n (cellsP qs)) (hok : ∀ q ∈ qs, q.Ok w) (hN : NewP w B p) (hB : v.ownBlock ≠ some B) (hi : i ≤ n) (hbase : base ≤ w.heap.size) (hn9 : n ≤ 900000) :
    Calls Tryz.prog 57 #[v, .int .i64 i, .slice (some ⟨B, 0, none⟩) 1 1] w fun e w' => ∃ v', e = .returned v' ∧ w'.ownsRow base 53 3 v' (n + 1) (cellsP (qs.take i ++ [p] ++ qs.drop i)) ∧ Kept (fun k => v.ownBlock = some k) w w' := by
  have hnq : n = qs.length := by have := h.1; rw [cellsP_len] at this; omega
  rcases Nat.lt_or_ge i n with hlt | hge
  · rcases h.2 with ⟨hv, h0⟩ | ⟨G, cap, cur, hv, hb, hh, hnc, hcm, hcs, htk⟩
    · omega
    · subst hv
      have hBG : B ≠ G := fun e => hB (by subst e; rfl)
      have hS : ∀ (w' : World), Kept (fun k => k = G) w w' → Kept (fun k => (Value.slice (some ⟨G, 0, none⟩) n cap).ownBlock = some k) w w' := fun w' hk => hk.mono fun k _ e => by subst e; rfl
      rcases Nat.lt_or_ge n cap with h1 | h1
      · refine (insert_room w base G n cap i B qs p h hN hBG hlt (by omega) hn9).mono ?_
        rintro e w' ⟨v', rfl, ho, hk⟩
        exact ⟨v', rfl, ho, hS _ hk⟩
      · obtain rfl : cap = n := by omega
        refine (insert_grow w base G cap i B qs p h hN hBG hlt hbase hn9).mono ?_
        rintro e w' ⟨v', rfl, ho, hk⟩
        exact ⟨v', rfl, ho, hS _ hk⟩
  · obtain rfl : i = n := by omega
    refine (insert_end w base i B v qs p h hok hN hbase hn9).mono ?_
    rintro e w' ⟨v', rfl, ho, hk⟩
    refine ⟨v', rfl, ?_, hk⟩
    rw [hnq, List.take_length, List.drop_length, List.append_nil]
    rw [hnq] at ho
    exact ho
end Go.Proofs.YtcifhfdjigfeiaaGreatDoor
end
