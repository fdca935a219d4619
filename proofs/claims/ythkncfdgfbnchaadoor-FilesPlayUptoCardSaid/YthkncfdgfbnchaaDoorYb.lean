import Derived.Test.YthkncfdgfbnchaaDoorYa
import Derived.Deep.AppendLies
/-! courantref16: put. -/
section
set_option linter.unusedVariables false
set_option linter.unusedSimpArgs false
namespace Go.Proofs.YthkncfdgfbnchaaDoor
open Go.RowKit

theorem cs_new (W : World) (cs : List Value) (t : TypeId) : Cs (W.alloc (.cells cs.toArray t)) (some ⟨W.heap.size, 0, none⟩) cs := by
  refine ⟨fun e => by simp at e, fun ad e j u hu => ?_⟩
  injection e with e
  subst e
  exact World.news_of_block (heap_alloc_new W _) j u (by simpa using hu)
def RPut (w w' : World) (R : Nat) (v' : Value) (rs' : List RV) (most fuse : Int) (dn : Bool) : Prop :=
  RefAt w' R v' rs' most fuse dn ∧ Kept (fun k => k = R) w w' ∧ ∀ k ∈ rfoot R v' rs', k = R ∨ w.heap.size ≤ k ∨ ∃ r ∈ rs', r.val.ownBlock = some k
set_option maxRecDepth 100000 in
set_option maxHeartbeats 8000000 in
theorem rput_any (w : World) (R : Nat) (v : Value) (r1 r2 : List RV) (nm : ByteArray) (xb : List UInt8) (xs : Nat) (Ax : Option Addr) (cx : Nat) (most fuse : Int) (dn : Bool) (h : RefAt w R v (r1 ++ r2) most fuse dn)
    (hat : atR (r1 ++ r2) nm.data.toList = r1.length) (hx : (RV.mk nm xb xs (.slice Ax xb.length cx)).At w) (hxR : (Value.slice Ax xb.length cx).ownBlock ≠ some R) (hl : (r1 ++ r2).length + 1 ≤ 1000) :
    Calls Tryd.prog 87 #[.pointer (some ⟨R, 0, none⟩), .agg #[.string nm, .slice Ax xb.length cx, .int .i64 xs]] w fun e w' => e = .returned (.tuple #[]) ∧ ∃ v', RPut w w' R v' (r1 ++ ⟨nm, xb, xs, .slice Ax xb.length cx⟩ :: r2) most fuse dn := by
  obtain ⟨A, c, hv, hf⟩ := h.form
  have H := Lib.hid h
  have HXR := Lib.hid hxR
  have h0 := h.rb.c0
  obtain ⟨n, hn⟩ : ∃ n, n = (r1 ++ r2).length := ⟨_, rfl⟩
  obtain ⟨k, hk⟩ : ∃ k, k = r1.length := ⟨_, rfl⟩
  obtain ⟨m, hm⟩ : ∃ m, m = r2.length := ⟨_, rfl⟩
  have hnk : n = k + m := by rw [hn, hk, hm]; simp
  rw [← hn] at hv
  have hcap : n ≤ c := by rw [hn]; exact hf.cap
  rw [← hn] at hl
  obtain ⟨W0, hW0⟩ : ∃ W0, W0 = w.alloc (.cells #[.string nm, .slice Ax xb.length cx, .int .i64 xs] 95) := ⟨_, rfl⟩
  have hk0 : Kept (fun _ => False) w W0 := by rw [hW0]; exact (Kept.refl _ w).alloc _
  have HA := Lib.hid (rat_any nm W0 R v _ most fuse dn (h.kept hk0 (by simp)))
  rw [hat, ← hk] at HA
  have hAc : A = none → c = 0 := fun e => (hf.none_ e).2
  have hP : Hid (∀ W, Kept (fun _ => False) W0 W → Cs W A (cellsR r1)) := Lib.hid fun W hW => by
    have h2 := h
    rw [hv] at h2
    exact h2.pre.kept (hk0.trans' hW) (by simp)
  have hQ : Hid (∀ W, Kept (fun _ => False) W0 W → Cs W (if c = k then A else A.map (·.add (k * 3))) (cellsR r2)) := Lib.hid fun W hW => by
    have h2 : RefAt w R (.slice A n c) (r1 ++ r2) most fuse dn := by rw [← hv]; exact h
    exact (h2.post k hk (by rw [← hn]; exact hcap)).kept (hk0.trans' hW) (by simp)
  have hone1 : Hid (∀ u ∈ cellsR r1, u.oneCell' = true) := Lib.hid (cellsR_one _ fun q hq => own_one (h.at_ q (by simp [hq])).own)
  have hone2 : Hid (∀ u ∈ cellsR r2, u.oneCell' = true) := Lib.hid (cellsR_one _ fun q hq => own_one (h.at_ q (by simp [hq])).own)
  have hs1 : ∀ W, (Instr.slice 50 v none (some (.int .i64 k)) none).run Tryd.prog W = .ok (.slice A k c) W := fun W => by rw [hv]; exact slice_to3 W A n k c (by omega)
  have hs2 : ∀ W, (Instr.slice 50 (.slice A n c) (some (.int .i64 (k : Int))) none none).run Tryd.prog W = .ok (.slice (if c = k then A else A.map (·.add (k * 3))) m (c - k)) W := fun W => by
    have := slice_from3 W A n k c (by omega) (by omega)
    rw [show n - k = m by omega] at this
    exact this
  have hA2 : Hid ((if c = k then A else A.map (·.add (k * 3))) = none → c - k = 0) := Lib.hid fun e => by
    have : A = none := by
      split at e
      · exact e
      · cases A with | none => rfl | some _ => simp at e
    have := hAc this
    omega
  have Hk := Lib.hid hk
  have Hm := Lib.hid hm
  have hk9 : (k : Int) ≤ 1000 := by omega
  have hk8 : (k : Int) ≤ (n : Int) := by omega
  have hnc : (n : Int) ≤ (c : Int) := by omega
  have Hl := Lib.hid hl
  have Hnk := Lib.hid hnk
  have HAc := Lib.hid hAc
  obtain ⟨A2, hA2e⟩ : ∃ A2, A2 = (if c = k then A else A.map (·.add (k * 3))) := ⟨_, rfl⟩
  rw [← hA2e] at hQ hA2
  have hs2' : ∀ W, (Instr.slice 50 v (some (.int .i64 (k : Int))) none none).run Tryd.prog W = .ok (.slice A2 m (c - k)) W := fun W => by rw [hA2e, hv]; exact hs2 W
  obtain ⟨D, hD⟩ : ∃ D, D = w.heap.size := ⟨_, rfl⟩
  have hh : W0.heap[D]? = some (.cells #[.string nm, .slice Ax xb.length cx, .int .i64 xs] 95 (0, 0)) := by rw [hW0, hD]; exact heap_alloc_new w _
  have HC0 : Hid (∀ W, Kept (fun _ => False) W0 W → W.cell? ⟨R, 0, none⟩ = some v ∧ W.frozen? ⟨R, 0, none⟩ = false ∧ W.cell? ⟨D, 0, none⟩ = some (.string nm) ∧ W.cell? ⟨D, 1, none⟩ = some (.slice Ax xb.length cx) ∧ W.cell? ⟨D, 2, none⟩ = some (.int .i64 xs)) := Lib.hid fun W hW => by
    have h2 := hW.heap hh (by simp)
    have hkk := hk0.trans' hW
    exact ⟨RB.c0 (show RB W R v most fuse dn from hkk.heap h.rb (by simp)), RB.fz (show RB W R v most fuse dn from hkk.heap h.rb (by simp)) 0, by rw [cell_of_row _ _ _ _ _ _ h2]; rfl, by rw [cell_of_row _ _ _ _ _ _ h2]; rfl, by rw [cell_of_row _ _ _ _ _ _ h2]; rfl⟩
  have HRef : Hid (RefAt W0 R v (r1 ++ r2) most fuse dn) := Lib.hid (h.kept hk0 (by simp))
  have HX : Hid ((RV.mk nm xb xs (.slice Ax xb.length cx)).At W0) := Lib.hid ⟨own_kept hx.own hk0 (by simp), hx.safe, hx.len⟩
  clear h hf hv hn hk hm hnk hcap hl hAc hs2 hA2e hx hxR
  go_enter Tryd.func87, Tryd.ntmps87
  go_wp2_with (go_at_call 92; rw [← hW0]; clear hW0; refine HA.out.mono ?_; rintro e W9 ⟨rfl, rfl⟩)
  have HK0 := Lib.hid hk0
  obtain ⟨hc0, hf0, hd0, hd1, hd2⟩ := HC0.out _ (Kept.refl _ W9)
  have hn0 : R < W9.heap.size := World.block_lt_of_cell? W9 ⟨R, 0, none⟩ hc0
  have hm0 : D < W9.heap.size := World.block_lt_of_cell? W9 ⟨D, 0, none⟩ hd0
  rw [← hD]
  have HD := Lib.hid hD
  clear hk0 hD h0 hh
  go_region_law (first
    | (refine step_append_rf rfl _ _ rfl W9.heap.size _ _ _ rfl HV2.out A2 m (c - k) (cellsR r2) rfl (hQ.out _ HK2.out) (by rw [cellsR_len, Hm.out]; omega) hone2.out hA2.out (by have := Hl.out; have := Hnk.out; omega) HK2.out.size ?_; intro v3 w3 hown hgrow; obtain ⟨A9, c9, rfl⟩ := own_slice hown; have HV3 := Lib.hid hown; have HK3 := Lib.hid (HK2.out.grown hgrow (fun k e hk => by have := own_ge HV2.out k e; omega)); obtain ⟨hc3, hf3, -, -, -⟩ := HC0.out _ HK3.out; clear hown hgrow)
    | (refine step_append_rf rfl _ _ rfl W9.heap.size _ _ _ rfl (own_kept HV1.out (show Kept (fun _ => False) w1 _ from by first | exact Kept.refl _ _ | exact (Kept.refl _ w1).alloc _) (by simp)) _ 1 1 [.string nm, .slice Ax xb.length cx, .int .i64 xs] rfl (by first | exact cs_new _ _ _ | exact (cs_new _ _ _).kept HKx.out (by simp) | exact (cs_new W9 _ 95).kept (((Kept.refl (fun _ => False) _).drew).trans' HKx.out) (by simp) | exact (cs_new W9.drew _ 95).kept HKx.out (by simp)) rfl (by simp [Value.oneCell']) (by simp) (by have := Hl.out; have := Hnk.out; omega) (by have := HK1.out.size; simp; omega) ?_; intro v2 w2 hown hgrow; have HV2 := Lib.hid hown; have HK2 := Lib.hid ((show Kept (fun _ => False) W9 _ from by first | exact HK1.out | exact HK1.out.alloc _).grown hgrow (fun k e hk => by have := own_ge HV1.out k e; omega)); obtain ⟨hc2, hf2, -, -, -⟩ := HC0.out _ HK2.out; clear hown hgrow)
    | (refine step_append_rf rfl _ _ rfl W9.heap.size _ 0 [] rfl (World.ownsRow_nil _ _ _ _) A k c (cellsR r1) rfl (hP.out _ (by first | exact (Kept.refl _ W9).drew | exact (Kept.refl _ W9).drew.alloc _)) (by rw [cellsR_len, Hk.out]; omega) hone1.out HAc.out (by omega) (by simp) ?_; intro v1 w1 hown hgrow; have HV1 := Lib.hid hown; have HK1 := Lib.hid ((show Kept (fun _ => False) W9 _ from by first | exact (Kept.refl _ W9).drew | exact (Kept.refl _ W9).drew.alloc _).grown hgrow (fun k e hk => by simp [Value.ownBlock, Act.eval] at e)); have HKx := Lib.hid ((Kept.refl (fun _ => False) _).grown hgrow (fun k e hk => by simp [Value.ownBlock, Act.eval] at e)); obtain ⟨hc1, hf1, he0, he1, he2⟩ := HC0.out _ HK1.out; have hn1 : R < w1.heap.size := World.block_lt_of_cell? w1 ⟨R, 0, none⟩ hc1; have hm1 : D < w1.heap.size := World.block_lt_of_cell? w1 ⟨D, 0, none⟩ he0; clear hown hgrow))
  all_goals
    go_end0
    have hE := rows_end (rs' := r1 ++ ⟨nm, xb, xs, .slice Ax xb.length cx⟩ :: r2) HRef.out HK3.out (by have := HV3.out; rw [List.nil_append] at this; rwa [show (r1 ++ (⟨nm, xb, xs, .slice Ax xb.length cx⟩ : RV) :: r2).length = 0 + k + 1 + m by rw [List.length_append, List.length_cons, Hk.out, Hm.out]; omega, show cellsR (r1 ++ (⟨nm, xb, xs, .slice Ax xb.length cx⟩ : RV) :: r2) = cellsR r1 ++ [.string nm, .slice Ax xb.length cx, .int .i64 xs] ++ cellsR r2 by simp [cellsR, RV.cells]]) (fun q hq => by
      rcases List.mem_append.1 hq with h | h
      · exact ⟨HRef.out.at_ q (by simp [h]), fun e => (HRef.out.sep q (by simp [h]) R e).1 rfl⟩
      · rcases List.mem_cons.1 h with h | h
        · subst h; exact ⟨HX.out, HXR.out⟩
        · exact ⟨HRef.out.at_ q (by simp [h]), fun e => (HRef.out.sep q (by simp [h]) R e).1 rfl⟩) (by rw [List.length_append, List.length_cons, ← Hk.out, ← Hm.out]; have := Hl.out; have := Hnk.out; omega)
    simp only [Nat.zero_add] at hE
    refine ⟨rfl, _, hE.1, (HK0.out.mono fun _ _ h => h.elim).trans' hE.2.1, fun k hk => ?_⟩
    rcases hE.2.2 k hk with h | h | h
    · exact .inl h
    · exact .inr (.inl (Nat.le_trans HK0.out.size h))
    · exact .inr (.inr h)
end Go.Proofs.YthkncfdgfbnchaaDoor
end
