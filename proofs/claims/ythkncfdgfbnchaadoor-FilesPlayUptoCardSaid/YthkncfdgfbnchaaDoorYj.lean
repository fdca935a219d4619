import Derived.Test.YthkncfdgfbnchaaDoorYi
import Derived.Test.YthkncfdgfbnchaaDoorYg
import Derived.Test.YthkncfdgfbnchaaDoorYh
/-! FilesPlay: step: Sync, Truncate, Rename, Remove. -/
section
set_option linter.unusedVariables false
set_option linter.unusedSimpArgs false
namespace Go.Proofs.YthkncfdgfbnchaaDoor
open Go.RowKit Go.Sort

def opV (k : Int) (nm to_ : ByteArray) (Ab : Option Addr) (lb cb : Nat) (N : Int) (Ak : Option Addr) (lk ck : Nat) : Value := .agg #[.int .i64 k, .string nm, .string to_, .slice Ab lb cb, .int .i64 N, .slice Ak lk ck]
/-- What a step leaves. -/
def StepPost (w : World) (R nb : Nat) (e : Ending) (W' : World) : Prop :=
  ∃ F' M' v' ps' rs' clock' lim' arm' dn', e = .returned (.tuple #[.pointer (some ⟨F', 0, none⟩), .bool true]) ∧ Both w W' F' M' R v' ps' rs' clock' lim' arm' dn' lim' arm' dn' ∧ Fit (ps'.map PF.core) rs' nb
/-- The op's own cells. -/
structure OpAt (W : World) (D : Nat) (k : Int) (nm to_ : ByteArray) (Ab : Option Addr) (lb cb : Nat) (N : Int) (Ak : Option Addr) (lk ck : Nat) : Prop where
  c : W.heap[D]? = some (.cells #[.int .i64 k, .string nm, .string to_, .slice Ab lb cb, .int .i64 N, .slice Ak lk ck] 47 (0, 0))
section
variable {W W' : World} {D : Nat} {k : Int} {nm to_ : ByteArray} {Ab Ak : Option Addr} {lb cb lk ck : Nat} {N : Int}
theorem OpAt.c0 (h : OpAt W D k nm to_ Ab lb cb N Ak lk ck) : W.cell? ⟨D, 0, none⟩ = some (.int .i64 k) := by rw [cell_of_row _ _ _ _ _ _ h.c]; rfl
theorem OpAt.c1 (h : OpAt W D k nm to_ Ab lb cb N Ak lk ck) : W.cell? ⟨D, 1, none⟩ = some (.string nm) := by rw [cell_of_row _ _ _ _ _ _ h.c]; rfl
theorem OpAt.c2 (h : OpAt W D k nm to_ Ab lb cb N Ak lk ck) : W.cell? ⟨D, 2, none⟩ = some (.string to_) := by rw [cell_of_row _ _ _ _ _ _ h.c]; rfl
theorem OpAt.c3 (h : OpAt W D k nm to_ Ab lb cb N Ak lk ck) : W.cell? ⟨D, 3, none⟩ = some (.slice Ab lb cb) := by rw [cell_of_row _ _ _ _ _ _ h.c]; rfl
theorem OpAt.c4 (h : OpAt W D k nm to_ Ab lb cb N Ak lk ck) : W.cell? ⟨D, 4, none⟩ = some (.int .i64 N) := by rw [cell_of_row _ _ _ _ _ _ h.c]; rfl
theorem OpAt.c5 (h : OpAt W D k nm to_ Ab lb cb N Ak lk ck) : W.cell? ⟨D, 5, none⟩ = some (.slice Ak lk ck) := by rw [cell_of_row _ _ _ _ _ _ h.c]; rfl
theorem OpAt.kept {S : Nat → Prop} (h : OpAt W D k nm to_ Ab lb cb N Ak lk ck) (hk : Kept S W W') (hD : ¬ S D) : OpAt W' D k nm to_ Ab lb cb N Ak lk ck := ⟨hk.heap h.c hD⟩
end
set_option maxRecDepth 100000 in
set_option maxHeartbeats 8000000 in
theorem step_sync (nm to_ : ByteArray) (Ab : Option Addr) (lb cb : Nat) (N : Int) (Ak : Option Addr) (lk ck : Nat) (w W : World) (F M R : Nat) (v : Value) (ps : List PF) (rs : List RV) (clock : Nat) (lim arm : Int) (dn : Bool) (nb : Nat) (ht : to_.size ≤ 140737488355328) (hB : Both w W F M R v ps rs clock lim arm dn lim arm dn) (hf : Fit (ps.map PF.core) rs nb) :
    Calls Tryd.prog 24 #[.pointer (some ⟨F, 0, none⟩), .pointer (some ⟨R, 0, none⟩), opV 1 nm to_ Ab lb cb N Ak lk ck] W (StepPost w R nb) := by
  obtain ⟨W1, hW1⟩ : ∃ W1, W1 = W.alloc (.cells #[.int .i64 1, .string nm, .string to_, .slice Ab lb cb, .int .i64 N, .slice Ak lk ck] 47) := ⟨_, rfl⟩
  obtain ⟨D, hD⟩ : ∃ D, D = W.heap.size := ⟨_, rfl⟩
  have hO : OpAt W1 D 1 nm to_ Ab lb cb N Ak lk ck := ⟨by rw [hW1, hD]; exact heap_alloc_new W _⟩
  have hk1 : Kept (fun _ => False) W W1 := by rw [hW1]; exact (Kept.refl _ W).alloc _
  have HB1 := Lib.hid (hB.stay (hk1.trans' (Kept.refl (fun _ => False) W1).drew))
  have HO1 := Lib.hid (hO.kept (Kept.refl (fun _ => False) W1).drew (by simp))
  have hDf : D ∉ foot F M ps := fun h => by have := hB.f.lt D h; omega
  have hDr : D ∉ rfoot R v rs := fun h => by have := hB.r.lt D h; omega
  have HDf := Lib.hid hDf
  have HDr := Lib.hid hDr
  obtain ⟨er, cs, arm', dn', hFc, hRc⟩ := sync_pair nm nb (R := R) (v := v) HB1.out.f hf
  have HFc := Lib.hid hFc
  have HRc := Lib.hid hRc
  have c0 := hO.c0
  have c1 := hO.c1
  have c2 := hO.c2
  have c4 := hO.c4
  have HE : Hid ((er == er) = true) := Lib.hid (by simp)
  unfold opV
  clear hB hf hO hk1 hDf hDr hFc hRc
  go_enter Tryd.func24, Tryd.ntmps24
  rw [hD] at c0 c1 c2 c4
  rw [hW1] at c0 c1 c2 c4
  go_upto_region 8 with fail
  rw [← hW1, ← hD]
  rw [← hW1, ← hD] at c0 c1 c2 c4
  clear hW1 hD
  go_region_held3 (fun W => W.cell? ⟨D, 1, none⟩ = some (.string nm) ∧ W.cell? ⟨D, 2, none⟩ = some (.string to_) ∧ W.cell? ⟨D, 4, none⟩ = some (.int .i64 N)) (first | exact ⟨by assumption, by assumption, by assumption⟩ | simp [*]) (first
    | (go_at_call 52; refine (HRc.out _ HB2.out.r).mono ?_; rintro e W3 ⟨rfl, v', rs', hw, hfit⟩; have HB3 := Lib.hid (HB2.out.goR hw); have HO3 := Lib.hid (HO2.out.kept hw.kept HDr.out); have HFit := Lib.hid hfit; have e1 := HO3.out.c1; have e2 := HO3.out.c2; have e4 := HO3.out.c4; clear hw hfit)
    | (go_at_call 15; refine HFc.out.mono ?_; rintro e W2 ⟨rfl, ps', clk', hw, hcs⟩; subst hcs; have HB2 := Lib.hid (HB1.out.goF hw); have HO2 := Lib.hid (HO1.out.kept hw.kept HDf.out); have d1 := HO2.out.c1; have d2 := HO2.out.c2; have d4 := HO2.out.c4; clear hw))
  all_goals go_wp2
  all_goals
    go_ret2
    exact ⟨F, M, v', ps', rs', clk', lim, arm', dn', rfl, HB3.out, HFit.out⟩
set_option maxRecDepth 100000 in
set_option maxHeartbeats 8000000 in
theorem step_trunc (nm to_ : ByteArray) (Ab : Option Addr) (lb cb : Nat) (N : Int) (Ak : Option Addr) (lk ck : Nat) (w W : World) (F M R : Nat) (v : Value) (ps : List PF) (rs : List RV) (clock : Nat) (lim arm : Int) (dn : Bool) (nb : Nat) (ht : to_.size ≤ 140737488355328) (hB : Both w W F M R v ps rs clock lim arm dn lim arm dn) (hf : Fit (ps.map PF.core) rs nb) :
    Calls Tryd.prog 24 #[.pointer (some ⟨F, 0, none⟩), .pointer (some ⟨R, 0, none⟩), opV 2 nm to_ Ab lb cb N Ak lk ck] W (StepPost w R nb) := by
  obtain ⟨W1, hW1⟩ : ∃ W1, W1 = W.alloc (.cells #[.int .i64 2, .string nm, .string to_, .slice Ab lb cb, .int .i64 N, .slice Ak lk ck] 47) := ⟨_, rfl⟩
  obtain ⟨D, hD⟩ : ∃ D, D = W.heap.size := ⟨_, rfl⟩
  have hO : OpAt W1 D 2 nm to_ Ab lb cb N Ak lk ck := ⟨by rw [hW1, hD]; exact heap_alloc_new W _⟩
  have hk1 : Kept (fun _ => False) W W1 := by rw [hW1]; exact (Kept.refl _ W).alloc _
  have HB1 := Lib.hid (hB.stay (hk1.trans' (Kept.refl (fun _ => False) W1).drew))
  have HO1 := Lib.hid (hO.kept (Kept.refl (fun _ => False) W1).drew (by simp))
  have hDf : D ∉ foot F M ps := fun h => by have := hB.f.lt D h; omega
  have hDr : D ∉ rfoot R v rs := fun h => by have := hB.r.lt D h; omega
  have HDf := Lib.hid hDf
  have HDr := Lib.hid hDr
  obtain ⟨er, cs, arm', dn', hFc, hRc⟩ := trunc_pair nm N nb (R := R) (v := v) HB1.out.f hf
  have HFc := Lib.hid hFc
  have HRc := Lib.hid hRc
  have c0 := hO.c0
  have c1 := hO.c1
  have c2 := hO.c2
  have c4 := hO.c4
  have HE : Hid ((er == er) = true) := Lib.hid (by simp)
  unfold opV
  clear hB hf hO hk1 hDf hDr hFc hRc
  go_enter Tryd.func24, Tryd.ntmps24
  rw [hD] at c0 c1 c2 c4
  rw [hW1] at c0 c1 c2 c4
  go_upto_region 10 with fail
  rw [← hW1, ← hD]
  rw [← hW1, ← hD] at c0 c1 c2 c4
  clear hW1 hD
  go_region_held3 (fun W => W.cell? ⟨D, 1, none⟩ = some (.string nm) ∧ W.cell? ⟨D, 2, none⟩ = some (.string to_) ∧ W.cell? ⟨D, 4, none⟩ = some (.int .i64 N)) (first | exact ⟨by assumption, by assumption, by assumption⟩ | simp [*]) (first
    | (go_at_call 53; refine (HRc.out _ HB2.out.r).mono ?_; rintro e W3 ⟨rfl, v', rs', hw, hfit⟩; have HB3 := Lib.hid (HB2.out.goR hw); have HO3 := Lib.hid (HO2.out.kept hw.kept HDr.out); have HFit := Lib.hid hfit; have e1 := HO3.out.c1; have e2 := HO3.out.c2; have e4 := HO3.out.c4; clear hw hfit)
    | (go_at_call 13; refine HFc.out.mono ?_; rintro e W2 ⟨rfl, ps', clk', hw, hcs⟩; subst hcs; have HB2 := Lib.hid (HB1.out.goF hw); have HO2 := Lib.hid (HO1.out.kept hw.kept HDf.out); have d1 := HO2.out.c1; have d2 := HO2.out.c2; have d4 := HO2.out.c4; clear hw))
  all_goals go_wp2
  all_goals
    go_ret2
    exact ⟨F, M, v', ps', rs', clk', lim, arm', dn', rfl, HB3.out, HFit.out⟩
set_option maxRecDepth 100000 in
set_option maxHeartbeats 8000000 in
theorem step_rename (nm to_ : ByteArray) (Ab : Option Addr) (lb cb : Nat) (N : Int) (Ak : Option Addr) (lk ck : Nat) (w W : World) (F M R : Nat) (v : Value) (ps : List PF) (rs : List RV) (clock : Nat) (lim arm : Int) (dn : Bool) (nb : Nat) (ht : to_.size ≤ 140737488355328) (hB : Both w W F M R v ps rs clock lim arm dn lim arm dn) (hf : Fit (ps.map PF.core) rs nb) :
    Calls Tryd.prog 24 #[.pointer (some ⟨F, 0, none⟩), .pointer (some ⟨R, 0, none⟩), opV 3 nm to_ Ab lb cb N Ak lk ck] W (StepPost w R nb) := by
  obtain ⟨W1, hW1⟩ : ∃ W1, W1 = W.alloc (.cells #[.int .i64 3, .string nm, .string to_, .slice Ab lb cb, .int .i64 N, .slice Ak lk ck] 47) := ⟨_, rfl⟩
  obtain ⟨D, hD⟩ : ∃ D, D = W.heap.size := ⟨_, rfl⟩
  have hO : OpAt W1 D 3 nm to_ Ab lb cb N Ak lk ck := ⟨by rw [hW1, hD]; exact heap_alloc_new W _⟩
  have hk1 : Kept (fun _ => False) W W1 := by rw [hW1]; exact (Kept.refl _ W).alloc _
  have HB1 := Lib.hid (hB.stay (hk1.trans' (Kept.refl (fun _ => False) W1).drew))
  have HO1 := Lib.hid (hO.kept (Kept.refl (fun _ => False) W1).drew (by simp))
  have hDf : D ∉ foot F M ps := fun h => by have := hB.f.lt D h; omega
  have hDr : D ∉ rfoot R v rs := fun h => by have := hB.r.lt D h; omega
  have HDf := Lib.hid hDf
  have HDr := Lib.hid hDr
  obtain ⟨er, cs, arm', dn', hFc, hRc⟩ := rename_pair nm to_ nb ht (R := R) (v := v) HB1.out.f hf
  have HFc := Lib.hid hFc
  have HRc := Lib.hid hRc
  have c0 := hO.c0
  have c1 := hO.c1
  have c2 := hO.c2
  have c4 := hO.c4
  have HE : Hid ((er == er) = true) := Lib.hid (by simp)
  unfold opV
  clear hB hf hO hk1 hDf hDr hFc hRc
  go_enter Tryd.func24, Tryd.ntmps24
  rw [hD] at c0 c1 c2 c4
  rw [hW1] at c0 c1 c2 c4
  go_upto_region 12 with fail
  rw [← hW1, ← hD]
  rw [← hW1, ← hD] at c0 c1 c2 c4
  clear hW1 hD
  go_region_held3 (fun W => W.cell? ⟨D, 1, none⟩ = some (.string nm) ∧ W.cell? ⟨D, 2, none⟩ = some (.string to_) ∧ W.cell? ⟨D, 4, none⟩ = some (.int .i64 N)) (first | exact ⟨by assumption, by assumption, by assumption⟩ | simp [*]) (first
    | (go_at_call 54; refine (HRc.out _ HB2.out.r).mono ?_; rintro e W3 ⟨rfl, v', rs', hw, hfit⟩; have HB3 := Lib.hid (HB2.out.goR hw); have HO3 := Lib.hid (HO2.out.kept hw.kept HDr.out); have HFit := Lib.hid hfit; have e1 := HO3.out.c1; have e2 := HO3.out.c2; have e4 := HO3.out.c4; clear hw hfit)
    | (go_at_call 22; refine HFc.out.mono ?_; rintro e W2 ⟨rfl, ps', clk', hw, hcs⟩; subst hcs; have HB2 := Lib.hid (HB1.out.goF hw); have HO2 := Lib.hid (HO1.out.kept hw.kept HDf.out); have d1 := HO2.out.c1; have d2 := HO2.out.c2; have d4 := HO2.out.c4; clear hw))
  all_goals go_wp2
  all_goals
    go_ret2
    exact ⟨F, M, v', ps', rs', clk', lim, arm', dn', rfl, HB3.out, HFit.out⟩
set_option maxRecDepth 100000 in
set_option maxHeartbeats 8000000 in
theorem step_remove (nm to_ : ByteArray) (Ab : Option Addr) (lb cb : Nat) (N : Int) (Ak : Option Addr) (lk ck : Nat) (w W : World) (F M R : Nat) (v : Value) (ps : List PF) (rs : List RV) (clock : Nat) (lim arm : Int) (dn : Bool) (nb : Nat) (ht : to_.size ≤ 140737488355328) (hB : Both w W F M R v ps rs clock lim arm dn lim arm dn) (hf : Fit (ps.map PF.core) rs nb) :
    Calls Tryd.prog 24 #[.pointer (some ⟨F, 0, none⟩), .pointer (some ⟨R, 0, none⟩), opV 4 nm to_ Ab lb cb N Ak lk ck] W (StepPost w R nb) := by
  obtain ⟨W1, hW1⟩ : ∃ W1, W1 = W.alloc (.cells #[.int .i64 4, .string nm, .string to_, .slice Ab lb cb, .int .i64 N, .slice Ak lk ck] 47) := ⟨_, rfl⟩
  obtain ⟨D, hD⟩ : ∃ D, D = W.heap.size := ⟨_, rfl⟩
  have hO : OpAt W1 D 4 nm to_ Ab lb cb N Ak lk ck := ⟨by rw [hW1, hD]; exact heap_alloc_new W _⟩
  have hk1 : Kept (fun _ => False) W W1 := by rw [hW1]; exact (Kept.refl _ W).alloc _
  have HB1 := Lib.hid (hB.stay (hk1.trans' (Kept.refl (fun _ => False) W1).drew))
  have HO1 := Lib.hid (hO.kept (Kept.refl (fun _ => False) W1).drew (by simp))
  have hDf : D ∉ foot F M ps := fun h => by have := hB.f.lt D h; omega
  have hDr : D ∉ rfoot R v rs := fun h => by have := hB.r.lt D h; omega
  have HDf := Lib.hid hDf
  have HDr := Lib.hid hDr
  obtain ⟨er, cs, arm', dn', hFc, hRc⟩ := remove_pair nm nb (R := R) (v := v) HB1.out.f hf
  have HFc := Lib.hid hFc
  have HRc := Lib.hid hRc
  have c0 := hO.c0
  have c1 := hO.c1
  have c2 := hO.c2
  have c4 := hO.c4
  have HE : Hid ((er == er) = true) := Lib.hid (by simp)
  unfold opV
  clear hB hf hO hk1 hDf hDr hFc hRc
  go_enter Tryd.func24, Tryd.ntmps24
  rw [hD] at c0 c1 c2 c4
  rw [hW1] at c0 c1 c2 c4
  go_upto_region 14 with fail
  rw [← hW1, ← hD]
  rw [← hW1, ← hD] at c0 c1 c2 c4
  clear hW1 hD
  go_region_held3 (fun W => W.cell? ⟨D, 1, none⟩ = some (.string nm) ∧ W.cell? ⟨D, 2, none⟩ = some (.string to_) ∧ W.cell? ⟨D, 4, none⟩ = some (.int .i64 N)) (first | exact ⟨by assumption, by assumption, by assumption⟩ | simp [*]) (first
    | (go_at_call 55; refine (HRc.out _ HB2.out.r).mono ?_; rintro e W3 ⟨rfl, v', rs', hw, hfit⟩; have HB3 := Lib.hid (HB2.out.goR hw); have HO3 := Lib.hid (HO2.out.kept hw.kept HDr.out); have HFit := Lib.hid hfit; have e1 := HO3.out.c1; have e2 := HO3.out.c2; have e4 := HO3.out.c4; clear hw hfit)
    | (go_at_call 33; refine HFc.out.mono ?_; rintro e W2 ⟨rfl, ps', clk', hw, hcs⟩; subst hcs; have HB2 := Lib.hid (HB1.out.goF hw); have HO2 := Lib.hid (HO1.out.kept hw.kept HDf.out); have d1 := HO2.out.c1; have d2 := HO2.out.c2; have d4 := HO2.out.c4; clear hw))
  all_goals go_wp2
  all_goals
    go_ret2
    exact ⟨F, M, v', ps', rs', clk', lim, arm', dn', rfl, HB3.out, HFit.out⟩
end Go.Proofs.YthkncfdgfbnchaaDoor
end

/-! FilesPlay: step: Limit, Arm, Crash, Start, Read. -/
section
set_option linter.unusedVariables false
set_option linter.unusedSimpArgs false
namespace Go.Proofs.YthkncfdgfbnchaaDoor
open Go.RowKit Go.Sort

theorem Both.stayS {S : Nat → Prop} {w W W' : World} {F M R clock : Nat} {v : Value} {ps : List PF} {rs : List RV} {lim arm lim2 arm2 : Int} {dn dn2 : Bool} (h : Both w W F M R v ps rs clock lim arm dn lim2 arm2 dn2) (k : Kept S W W') (hf : ∀ i ∈ foot F M ps, ¬ S i) (hr : ∀ i ∈ rfoot R v rs, ¬ S i) (hw : ∀ i, i < w.heap.size → ¬ S i) : Both w W' F M R v ps rs clock lim arm dn lim2 arm2 dn2 :=
  ⟨h.f.kept k hf, h.r.kept k hr, h.fnew, h.rnew, h.apart, h.kept.trans k fun i hi hS => absurd hS (hw i hi)⟩
set_option maxRecDepth 100000 in
set_option maxHeartbeats 8000000 in
theorem step_limit (nm to_ : ByteArray) (Ab : Option Addr) (lb cb : Nat) (N : Int) (Ak : Option Addr) (lk ck : Nat) (w W : World) (F M R : Nat) (v : Value) (ps : List PF) (rs : List RV) (clock : Nat) (lim arm : Int) (dn : Bool) (nb : Nat) (hB : Both w W F M R v ps rs clock lim arm dn lim arm dn) (hf : Fit (ps.map PF.core) rs nb) :
    Calls Tryd.prog 24 #[.pointer (some ⟨F, 0, none⟩), .pointer (some ⟨R, 0, none⟩), opV 6 nm to_ Ab lb cb N Ak lk ck] W (StepPost w R nb) := by
  obtain ⟨W1, hW1⟩ : ∃ W1, W1 = W.alloc (.cells #[.int .i64 6, .string nm, .string to_, .slice Ab lb cb, .int .i64 N, .slice Ak lk ck] 47) := ⟨_, rfl⟩
  obtain ⟨D, hD⟩ : ∃ D, D = W.heap.size := ⟨_, rfl⟩
  have hO : OpAt W1 D 6 nm to_ Ab lb cb N Ak lk ck := ⟨by rw [hW1, hD]; exact heap_alloc_new W _⟩
  have hk1 : Kept (fun _ => False) W W1 := by rw [hW1]; exact (Kept.refl _ W).alloc _
  have HB1 := Lib.hid (hB.stay hk1)
  have HO1 := Lib.hid hO
  have hDf : D ∉ foot F M ps := fun h => by have := hB.f.lt D h; omega
  have hDr : D ∉ rfoot R v rs := fun h => by have := hB.r.lt D h; omega
  have HDf := Lib.hid hDf
  have HDr := Lib.hid hDr
  have Hf := Lib.hid hf
  have c0 := hO.c0
  have c1 := hO.c1
  have c4 := hO.c4
  have c5 := hO.c5
  obtain ⟨hFc, hRc⟩ := limit_pair N (R := R) (v := v) (rs := rs) HB1.out.f
  have HFc := Lib.hid hFc
  have HRc := Lib.hid hRc
  clear hFc hRc
  unfold opV
  clear hB hf hO hk1 hDf hDr
  go_enter Tryd.func24, Tryd.ntmps24
  rw [hD] at c0 c1 c4 c5
  rw [hW1] at c0 c1 c4 c5
  go_upto_region 22 with fail
  rw [← hW1, ← hD]
  rw [← hW1, ← hD] at c0 c1 c4 c5
  clear hW1 hD
  go_wp2_with (first
    | (go_at_call 51; refine (HRc.out _ HB2.out.r).mono ?_; rintro e W3 ⟨rfl, hw⟩; have HB3 := Lib.hid (HB2.out.goR hw); clear hw)
    | (go_at_call 32; refine HFc.out.mono ?_; rintro e W2 ⟨rfl, hw⟩; have HB2 := Lib.hid (HB1.out.goF hw); have HO2 := Lib.hid (HO1.out.kept hw.kept HDf.out); have d4 := HO2.out.c4; clear hw))
  go_ret2
  exact ⟨F, M, v, ps, rs, clock, (boundI N), arm, dn, rfl, HB3.out, Hf.out⟩
set_option maxRecDepth 100000 in
set_option maxHeartbeats 8000000 in
theorem step_arm (nm to_ : ByteArray) (Ab : Option Addr) (lb cb : Nat) (N : Int) (Ak : Option Addr) (lk ck : Nat) (w W : World) (F M R : Nat) (v : Value) (ps : List PF) (rs : List RV) (clock : Nat) (lim arm : Int) (dn : Bool) (nb : Nat) (hN : N ≤ 9223372036854775807) (hB : Both w W F M R v ps rs clock lim arm dn lim arm dn) (hf : Fit (ps.map PF.core) rs nb) :
    Calls Tryd.prog 24 #[.pointer (some ⟨F, 0, none⟩), .pointer (some ⟨R, 0, none⟩), opV 7 nm to_ Ab lb cb N Ak lk ck] W (StepPost w R nb) := by
  obtain ⟨W1, hW1⟩ : ∃ W1, W1 = W.alloc (.cells #[.int .i64 7, .string nm, .string to_, .slice Ab lb cb, .int .i64 N, .slice Ak lk ck] 47) := ⟨_, rfl⟩
  obtain ⟨D, hD⟩ : ∃ D, D = W.heap.size := ⟨_, rfl⟩
  have hO : OpAt W1 D 7 nm to_ Ab lb cb N Ak lk ck := ⟨by rw [hW1, hD]; exact heap_alloc_new W _⟩
  have hk1 : Kept (fun _ => False) W W1 := by rw [hW1]; exact (Kept.refl _ W).alloc _
  have HB1 := Lib.hid (hB.stay hk1)
  have HO1 := Lib.hid hO
  have hDf : D ∉ foot F M ps := fun h => by have := hB.f.lt D h; omega
  have hDr : D ∉ rfoot R v rs := fun h => by have := hB.r.lt D h; omega
  have HDf := Lib.hid hDf
  have HDr := Lib.hid hDr
  have Hf := Lib.hid hf
  have c0 := hO.c0
  have c1 := hO.c1
  have c4 := hO.c4
  have c5 := hO.c5
  obtain ⟨hFc, hRc⟩ := arm_pair N hN (R := R) (v := v) (rs := rs) HB1.out.f
  have HFc := Lib.hid hFc
  have HRc := Lib.hid hRc
  clear hFc hRc
  unfold opV
  clear hB hf hO hk1 hDf hDr
  go_enter Tryd.func24, Tryd.ntmps24
  rw [hD] at c0 c1 c4 c5
  rw [hW1] at c0 c1 c4 c5
  go_upto_region 25 with fail
  rw [← hW1, ← hD]
  rw [← hW1, ← hD] at c0 c1 c4 c5
  clear hW1 hD
  go_wp2_with (first
    | (go_at_call 57; refine (HRc.out _ HB2.out.r).mono ?_; rintro e W3 ⟨rfl, hw⟩; have HB3 := Lib.hid (HB2.out.goR hw); clear hw)
    | (go_at_call 16; refine HFc.out.mono ?_; rintro e W2 ⟨rfl, hw⟩; have HB2 := Lib.hid (HB1.out.goF hw); have HO2 := Lib.hid (HO1.out.kept hw.kept HDf.out); have d4 := HO2.out.c4; clear hw))
  go_ret2
  exact ⟨F, M, v, ps, rs, clock, lim, (armI N), dn, rfl, HB3.out, Hf.out⟩
set_option maxRecDepth 100000 in
set_option maxHeartbeats 8000000 in
theorem step_crash (nm to_ : ByteArray) (Ab : Option Addr) (lb cb : Nat) (N : Int) (Ak : Option Addr) (lk ck : Nat) (w W : World) (F M R : Nat) (v : Value) (ps : List PF) (rs : List RV) (clock : Nat) (lim arm : Int) (dn : Bool) (nb : Nat) (zs : List Int) (hks : ∀ j, j < lk → ∃ ad, Ak = some ad ∧ w.cell? (ad.add j) = some (.int .i64 (zs.getD j 0))) (hB : Both w W F M R v ps rs clock lim arm dn lim arm dn) (hf : Fit (ps.map PF.core) rs nb) :
    Calls Tryd.prog 24 #[.pointer (some ⟨F, 0, none⟩), .pointer (some ⟨R, 0, none⟩), opV 8 nm to_ Ab lb cb N Ak lk ck] W (StepPost w R nb) := by
  obtain ⟨W1, hW1⟩ : ∃ W1, W1 = W.alloc (.cells #[.int .i64 8, .string nm, .string to_, .slice Ab lb cb, .int .i64 N, .slice Ak lk ck] 47) := ⟨_, rfl⟩
  obtain ⟨D, hD⟩ : ∃ D, D = W.heap.size := ⟨_, rfl⟩
  have hO : OpAt W1 D 8 nm to_ Ab lb cb N Ak lk ck := ⟨by rw [hW1, hD]; exact heap_alloc_new W _⟩
  have hk1 : Kept (fun _ => False) W W1 := by rw [hW1]; exact (Kept.refl _ W).alloc _
  have HB1 := Lib.hid (hB.stay hk1)
  have HO1 := Lib.hid hO
  have hDf : D ∉ foot F M ps := fun h => by have := hB.f.lt D h; omega
  have hDr : D ∉ rfoot R v rs := fun h => by have := hB.r.lt D h; omega
  have HDf := Lib.hid hDf
  have HDr := Lib.hid hDr
  have Hf := Lib.hid hf
  have c0 := hO.c0
  have c1 := hO.c1
  have c4 := hO.c4
  have c5 := hO.c5
  have hkF : Hid (∀ j, j < lk → ∃ ad, Ak = some ad ∧ ad.block ∉ foot F M ps ∧ W1.cell? (ad.add j) = some (.int .i64 (zs.getD j 0))) := Lib.hid fun j hj => by
    obtain ⟨ad, e, hc⟩ := hks j hj
    have hlt := World.block_lt_of_cell? w _ hc
    rw [add_block] at hlt
    exact ⟨ad, e, fun hm => by have := HB1.out.fnew _ hm; omega, HB1.out.kept.cell hc (by simp)⟩
  have HFc := Lib.hid (crash_ex zs W1 F M ps clock lim arm dn Ak lk ck HB1.out.f (by have := hf.alike.len; have := hf.few; have := HB1.out.r.few; omega) hf.namesF hkF)
  have HKs := Lib.hid hks
  clear hks
  unfold opV
  clear hB hf hO hk1 hDf hDr
  go_enter Tryd.func24, Tryd.ntmps24
  rw [hD] at c0 c1 c4 c5
  rw [hW1] at c0 c1 c4 c5
  go_upto_region 28 with fail
  rw [← hW1, ← hD]
  rw [← hW1, ← hD] at c0 c1 c4 c5
  clear hW1 hD
  go_wp2_with (first
    | (go_at_call 58; refine (rcrash_ex zs _ R v rs lim arm dn Ak lk ck HB2.out.r (fun j hj => by
        obtain ⟨ad, e, hc⟩ := HKs.out j hj
        have hlt := World.block_lt_of_cell? w _ hc
        rw [add_block] at hlt
        exact ⟨ad, e, fun hm => by have := HB2.out.rnew _ hm; omega, HB2.out.kept.cell hc (by simp)⟩)).mono ?_; rintro e W3 ⟨rfl, rs', hw, hfk⟩; have HB3 := Lib.hid (HB2.out.goR hw); have HFit := Lib.hid (fit_fall Hf.out HB1.out.f.names HA.out hfk); clear hw hfk)
    | (go_at_call 17; refine HFc.out.mono ?_; rintro e W2 ⟨rfl, qs, hw, ha⟩; have HB2 := Lib.hid (HB1.out.goF hw); have HO2 := Lib.hid (HO1.out.kept hw.kept HDf.out); have HA := Lib.hid ha; have d5 := HO2.out.c5; clear hw ha))
  go_ret2
  exact ⟨F, M, v, qs, rs', clock, lim, arm, true, rfl, HB3.out, HFit.out⟩
set_option maxRecDepth 100000 in
set_option maxHeartbeats 8000000 in
theorem step_startD (nm to_ : ByteArray) (Ab : Option Addr) (lb cb : Nat) (N : Int) (Ak : Option Addr) (lk ck : Nat) (w W : World) (F M R : Nat) (v : Value) (ps : List PF) (rs : List RV) (clock : Nat) (lim arm : Int) (dn : Bool) (nb : Nat) (hdn : dn = true) (hB : Both w W F M R v ps rs clock lim arm dn lim arm dn) (hf : Fit (ps.map PF.core) rs nb) :
    Calls Tryd.prog 24 #[.pointer (some ⟨F, 0, none⟩), .pointer (some ⟨R, 0, none⟩), opV 9 nm to_ Ab lb cb N Ak lk ck] W (StepPost w R nb) := by
  obtain ⟨W1, hW1⟩ : ∃ W1, W1 = W.alloc (.cells #[.int .i64 9, .string nm, .string to_, .slice Ab lb cb, .int .i64 N, .slice Ak lk ck] 47) := ⟨_, rfl⟩
  obtain ⟨D, hD⟩ : ∃ D, D = W.heap.size := ⟨_, rfl⟩
  have hO : OpAt W1 D 9 nm to_ Ab lb cb N Ak lk ck := ⟨by rw [hW1, hD]; exact heap_alloc_new W _⟩
  have hk1 : Kept (fun _ => False) W W1 := by rw [hW1]; exact (Kept.refl _ W).alloc _
  have HB1 := Lib.hid (hB.stay hk1)
  have HO1 := Lib.hid hO
  have hDf : D ∉ foot F M ps := fun h => by have := hB.f.lt D h; omega
  have hDr : D ∉ rfoot R v rs := fun h => by have := hB.r.lt D h; omega
  have HDf := Lib.hid hDf
  have HDr := Lib.hid hDr
  have Hf := Lib.hid hf
  have c0 := hO.c0
  have c1 := hO.c1
  have c4 := hO.c4
  have c5 := hO.c5
  subst hdn
  have HFc := Lib.hid (start_ex W1 F M ps clock lim arm HB1.out.f (by have := hf.alike.len; have := hf.few; have := HB1.out.r.few; omega) hf.namesF)
  unfold opV
  clear hB hf hO hk1 hDf hDr
  go_enter Tryd.func24, Tryd.ntmps24
  rw [hD] at c0 c1 c4 c5
  rw [hW1] at c0 c1 c4 c5
  go_upto_region 31 with fail
  rw [← hW1, ← hD]
  rw [← hW1, ← hD] at c0 c1 c4 c5
  clear hW1 hD
  go_wp2_with (first
    | (go_at_call 59; refine (rstart_down _ R v rs lim arm HB2.out.r).mono ?_; rintro e W3 ⟨rfl, rs', hw, hfk⟩; have HB3 := Lib.hid (HB2.out.goR hw); have HFit := Lib.hid (fit_fall Hf.out HB1.out.f.names HA.out hfk); clear hw hfk)
    | (go_at_call 18; refine HFc.out.mono ?_; rintro e W2 ⟨rfl, qs, hw, ha⟩; have HB2 := Lib.hid (HB1.out.goF hw); have HA := Lib.hid ha; clear hw ha))
  go_ret2
  exact ⟨F, M, v, qs, rs', clock, lim, 0, false, rfl, HB3.out, HFit.out⟩
set_option maxRecDepth 100000 in
set_option maxHeartbeats 8000000 in
theorem step_startU (nm to_ : ByteArray) (Ab : Option Addr) (lb cb : Nat) (N : Int) (Ak : Option Addr) (lk ck : Nat) (w W : World) (F M R : Nat) (v : Value) (ps : List PF) (rs : List RV) (clock : Nat) (lim arm : Int) (dn : Bool) (nb : Nat) (hdn : dn = false) (hB : Both w W F M R v ps rs clock lim arm dn lim arm dn) (hf : Fit (ps.map PF.core) rs nb) :
    Calls Tryd.prog 24 #[.pointer (some ⟨F, 0, none⟩), .pointer (some ⟨R, 0, none⟩), opV 9 nm to_ Ab lb cb N Ak lk ck] W (StepPost w R nb) := by
  obtain ⟨W1, hW1⟩ : ∃ W1, W1 = W.alloc (.cells #[.int .i64 9, .string nm, .string to_, .slice Ab lb cb, .int .i64 N, .slice Ak lk ck] 47) := ⟨_, rfl⟩
  obtain ⟨D, hD⟩ : ∃ D, D = W.heap.size := ⟨_, rfl⟩
  have hO : OpAt W1 D 9 nm to_ Ab lb cb N Ak lk ck := ⟨by rw [hW1, hD]; exact heap_alloc_new W _⟩
  have hk1 : Kept (fun _ => False) W W1 := by rw [hW1]; exact (Kept.refl _ W).alloc _
  have HB1 := Lib.hid (hB.stay hk1)
  have HO1 := Lib.hid hO
  have hDf : D ∉ foot F M ps := fun h => by have := hB.f.lt D h; omega
  have hDr : D ∉ rfoot R v rs := fun h => by have := hB.r.lt D h; omega
  have HDf := Lib.hid hDf
  have HDr := Lib.hid hDr
  have Hf := Lib.hid hf
  have c0 := hO.c0
  have c1 := hO.c1
  have c4 := hO.c4
  have c5 := hO.c5
  subst hdn
  have HFc := Lib.hid (start_up W1 F M ps clock lim arm HB1.out.f)
  unfold opV
  clear hB hf hO hk1 hDf hDr
  go_enter Tryd.func24, Tryd.ntmps24
  rw [hD] at c0 c1 c4 c5
  rw [hW1] at c0 c1 c4 c5
  go_upto_region 31 with fail
  rw [← hW1, ← hD]
  rw [← hW1, ← hD] at c0 c1 c4 c5
  clear hW1 hD
  go_wp2_with (first
    | (go_at_call 59; refine (rstart_up _ R v rs lim arm HB2.out.r).mono ?_; rintro e W3 ⟨rfl, hw⟩; have HB3 := Lib.hid (HB2.out.goR hw); clear hw)
    | (go_at_call 18; refine HFc.out.mono ?_; rintro e W2 ⟨rfl, hw⟩; have HB2 := Lib.hid (HB1.out.goF hw); clear hw))
  go_ret2
  exact ⟨F, M, v, ps, rs, clock, lim, 0, false, rfl, HB3.out, Hf.out⟩
set_option maxRecDepth 100000 in
set_option maxHeartbeats 8000000 in
theorem step_read (nm to_ : ByteArray) (Ab : Option Addr) (lb cb : Nat) (N : Int) (Ak : Option Addr) (lk ck : Nat) (w W : World) (F M R : Nat) (v : Value) (ps : List PF) (rs : List RV) (clock : Nat) (lim arm : Int) (dn : Bool) (nb : Nat) (hB : Both w W F M R v ps rs clock lim arm dn lim arm dn) (hf : Fit (ps.map PF.core) rs nb) :
    Calls Tryd.prog 24 #[.pointer (some ⟨F, 0, none⟩), .pointer (some ⟨R, 0, none⟩), opV 5 nm to_ Ab lb cb N Ak lk ck] W (StepPost w R nb) := by
  obtain ⟨W1, hW1⟩ : ∃ W1, W1 = W.alloc (.cells #[.int .i64 5, .string nm, .string to_, .slice Ab lb cb, .int .i64 N, .slice Ak lk ck] 47) := ⟨_, rfl⟩
  obtain ⟨D, hD⟩ : ∃ D, D = W.heap.size := ⟨_, rfl⟩
  have hO : OpAt W1 D 5 nm to_ Ab lb cb N Ak lk ck := ⟨by rw [hW1, hD]; exact heap_alloc_new W _⟩
  have hk1 : Kept (fun _ => False) W W1 := by rw [hW1]; exact (Kept.refl _ W).alloc _
  have HB1 := Lib.hid (hB.stay hk1)
  have HO1 := Lib.hid hO
  have hDf : D ∉ foot F M ps := fun h => by have := hB.f.lt D h; omega
  have hDr : D ∉ rfoot R v rs := fun h => by have := hB.r.lt D h; omega
  have HDf := Lib.hid hDf
  have HDr := Lib.hid hDr
  have Hf := Lib.hid hf
  have c0 := hO.c0
  have c1 := hO.c1
  have c4 := hO.c4
  have c5 := hO.c5
  obtain ⟨er, xs, hxl, hFc, hRc⟩ := read_pair (R := R) (v := v) nm nb HB1.out.f hf
  have HFc := Lib.hid hFc
  have HRc := Lib.hid hRc
  have Hxl := Lib.hid hxl
  clear hFc hRc hxl
  unfold opV
  clear hB hf hO hk1 hDf hDr
  go_enter Tryd.func24, Tryd.ntmps24
  rw [hD] at c0 c1 c4 c5
  rw [hW1] at c0 c1 c4 c5
  go_upto_region 16 with fail
  rw [← hW1, ← hD]
  rw [← hW1, ← hD] at c0 c1 c4 c5
  clear hW1 hD
  go_wp2_with (first
    | (go_at_call 56; refine (spoil_own _ W1.heap.size xs.length _ xs (by have := Hxl.out; omega) (own_kept HU1.out HK3.out (by simp))).mono ?_; rintro e W4 ⟨rfl, hk⟩; have HK4 := Lib.hid hk; clear hk)
    | (go_at_call 21; refine (bytes_any _ _ _ _ _ _ _ xs xs rfl rfl (HBa.out.kept HK3.out (by simp)) HBb.out).mono ?_; rintro e w9 ⟨rfl, rfl⟩)
    | (go_at_call 31; refine (HRc.out _ HB2.out.r).mono ?_; rintro e W3 ⟨u2, rfl, hown, hk⟩; obtain ⟨A2, c2, rfl, -, hb, -, -⟩ := Bs.of_own hown; have HB3 := Lib.hid (HB2.out.stay hk); have HBb := Lib.hid hb; have HK3 := Lib.hid hk; clear hown hk hb)
    | (go_at_call 19; refine HFc.out.mono ?_; rintro e W2 ⟨u1, rfl, hown, hk⟩; obtain ⟨A1, c1', rfl, -, hb, -, -⟩ := Bs.of_own hown; have HU1 := Lib.hid hown; have HB2 := Lib.hid (HB1.out.stay hk); have HO2 := Lib.hid (HO1.out.kept hk (by simp)); have HBa := Lib.hid hb; have d1 := HO2.out.c1; clear hown hk hb))
  go_ret2
  have hge := own_ge HU1.out
  have hB4 := HB3.out.stayS HK4.out (fun i hi e => by have := hge i e; have := HB1.out.f.lt i hi; omega) (fun i hi e => by have := hge i e; have := HB1.out.r.lt i hi; omega) (fun i hi e => by have := hge i e; have := HB1.out.kept.size; omega)
  exact ⟨F, M, v, ps, rs, clock, lim, arm, dn, by simp, hB4, Hf.out⟩
end Go.Proofs.YthkncfdgfbnchaaDoor
end

/-! FilesPlay: step: Append, Fork. -/
section
set_option linter.unusedVariables false
set_option linter.unusedSimpArgs false
namespace Go.Proofs.YthkncfdgfbnchaaDoor
open Go.RowKit Go.Sort

set_option maxRecDepth 100000 in
set_option maxHeartbeats 8000000 in
theorem step_append (nm to_ : ByteArray) (Ab : Option Addr) (lb cb : Nat) (N : Int) (Ak : Option Addr) (lk ck : Nat) (w W : World) (F M R : Nat) (v : Value) (ps : List PF) (rs : List RV) (clock : Nat) (lim arm : Int) (dn : Bool) (nb : Nat) (kind : Int) (h1 : (kind == 1) = false) (h2 : (kind == 2) = false) (h3 : (kind == 3) = false) (h4 : (kind == 4) = false) (h5 : (kind == 5) = false) (h6 : (kind == 6) = false) (h7 : (kind == 7) = false) (h8 : (kind == 8) = false) (h9 : (kind == 9) = false) (h10 : (kind == 10) = false) (xs : List UInt8) (hs : nm.size ≤ 140737488355328) (hn : lb = xs.length) (hl : lb ≤ 5000) (hnb : nb + 1 ≤ 1000) (hx : Bs w Ab xs) (hA : Ab = none → cb = 0) (hw : ∀ ad, Ab = some ad → xs = [] ∨ ad.block < w.heap.size) (hB : Both w W F M R v ps rs clock lim arm dn lim arm dn) (hf : Fit (ps.map PF.core) rs nb) :
    Calls Tryd.prog 24 #[.pointer (some ⟨F, 0, none⟩), .pointer (some ⟨R, 0, none⟩), opV kind nm to_ Ab lb cb N Ak lk ck] W (StepPost w R (nb + 1)) := by
  obtain ⟨W1, hW1⟩ : ∃ W1, W1 = W.alloc (.cells #[.int .i64 kind, .string nm, .string to_, .slice Ab lb cb, .int .i64 N, .slice Ak lk ck] 47) := ⟨_, rfl⟩
  obtain ⟨D, hD⟩ : ∃ D, D = W.heap.size := ⟨_, rfl⟩
  have hO : OpAt W1 D kind nm to_ Ab lb cb N Ak lk ck := ⟨by rw [hW1, hD]; exact heap_alloc_new W _⟩
  have hk1 : Kept (fun _ => False) W W1 := by rw [hW1]; exact (Kept.refl _ W).alloc _
  have HB1 := Lib.hid (hB.stay hk1)
  have HO1 := Lib.hid hO
  have hDf : D ∉ foot F M ps := fun h => by have := hB.f.lt D h; omega
  have hDr : D ∉ rfoot R v rs := fun h => by have := hB.r.lt D h; omega
  have HDf := Lib.hid hDf
  have HDr := Lib.hid hDr
  have Hf := Lib.hid hf
  have c0 := hO.c0
  have c1 := hO.c1
  have c4 := hO.c4
  have c5 := hO.c5
  have HX1 : Hid (∀ W9, Kept (fun _ => False) w W9 → Bs W9 Ab xs) := Lib.hid fun W9 hk => hx.kept hk (by simp)
  have HOwn := Lib.hid (own_any W1 Ab cb xs 71 (by omega) (HX1.out W1 HB1.out.kept) hA)
  rw [← hn] at HOwn
  have Hs := Lib.hid hs
  have Hn := Lib.hid hn
  have HA := Lib.hid hA
  have Hw := Lib.hid hw
  have HD := Lib.hid hD
  have hl9 : lb ≤ 5000 := hl
  have Hnb := Lib.hid hnb
  have Hw1 : Hid (W.heap.size ≤ W1.heap.size) := Lib.hid hk1.size
  clear hs hn hA hw hx hnb hl
  unfold opV
  clear hB hf hO hk1 hDf hDr
  go_enter Tryd.func24, Tryd.ntmps24
  rw [hD] at c0 c1 c4 c5
  rw [hW1] at c0 c1 c4 c5
  go_upto_region 2 with fail
  rw [← hW1, ← hD]
  rw [← hW1, ← hD] at c0 c1 c4 c5
  clear hW1 hD
  have c3 := HO1.out.c3
  go_wp2_with (first
    | (go_at_call 60; refine HOwn.out.mono ?_; rintro e W2 ⟨rfl, hrow, hbel⟩; have HRow := Lib.hid hrow; have hk2 : Kept (fun _ => False) W1 W2 := Kept.of_below hbel _ (fun k h1 h2 => by omega); have HK2 := Lib.hid hk2; have HB2 := Lib.hid (HB1.out.stay hk2); have HO2 := Lib.hid (HO1.out.kept hk2 (by simp)); have d1 := HO2.out.c1; have d3 := HO2.out.c3; have HBi : Hid (Bs W2 (some ⟨W1.heap.size, 0, none⟩) xs) := Lib.hid ⟨fun e => by simp at e, fun ad e j u hu => by
        injection e with e
        subst e
        have hj := (List.getElem?_eq_some_iff.1 hu).1
        have := hrow.at j u (by rw [List.getElem?_append_left hj]; exact hu)
        have e1 : (⟨W1.heap.size, 0, none⟩ : Addr).add j = ⟨W1.heap.size, j, none⟩ := by unfold Addr.add; split <;> simp_all
        rwa [e1]⟩; obtain ⟨er, cs, arm', dn', -, hFc, hRc⟩ := append_pair (R := R) (v := v) (clock := clock) nm (some ⟨W1.heap.size, 0, none⟩) Ab lb (lb + 3) cb xs nb Hs.out Hn.out hl9 Hnb.out HB2.out.f Hf.out HBi.out (fun e => by simp at e) (fun ad e => by injection e with e; subst e; exact .inr fun e => by have := HB1.out.f.lt M (by simp [foot]); simp only at e; omega) HA.out (fun ad e => (Hw.out ad e).imp id fun h e2 => by have := HB1.out.rnew R (by simp [rfoot]); omega); have HFc := Lib.hid hFc; have HRc := Lib.hid hRc; clear hrow hbel hk2 hFc hRc)
    | (go_at_call 12; refine HFc.out.mono ?_; rintro e W3 ⟨rfl, ps', clk', hw, hcs⟩; subst hcs; have HB3 := Lib.hid (HB2.out.goF hw); have HO3 := Lib.hid (HO2.out.kept hw.kept HDf.out); have HK3 := Lib.hid hw.kept; have HFt := Lib.hid hw.feet; have e1 := HO3.out.c1; have e3 := HO3.out.c3; have HRow3 : Hid (Row W3 W1.heap.size (lb + 3) (xs.map bv ++ List.replicate 3 (bv 71))) := Lib.hid (by obtain ⟨cur, a1, a2, a3⟩ := HRow.out; exact ⟨cur, hw.kept.heap a1 (fun hm => by have := HB1.out.f.lt _ hm; omega), a2, a3⟩); clear hw)
    | (go_at_call 61; refine (kept_any _ W1.heap.size Ab cb lb xs 71 (by omega) Hn.out HRow3.out (HX1.out _ HB3.out.kept)).mono ?_; rintro e W4 ⟨rfl, m, rfl⟩; have HB4 := Lib.hid (HB3.out.stay ((Kept.refl (fun _ => False) W3).drewN m)); have HO4 := Lib.hid (HO3.out.kept ((Kept.refl (fun _ => False) W3).drewN m) (by simp)); have g1 := HO4.out.c1; have g3 := HO4.out.c3; have HRow4 : Hid (Row (W3.drewN m) W1.heap.size (lb + 3) (xs.map bv ++ List.replicate 3 (bv 71))) := Lib.hid HRow3.out)
    | (go_at_call 62; refine (HRc.out _ HB4.out.r (HX1.out _ HB4.out.kept)).mono ?_; rintro e W5 ⟨rfl, v', rs', hw, hfit⟩; have HB5 := Lib.hid (HB4.out.goR hw); have HFit := Lib.hid hfit; have HRow5 : Hid (Row W5 W1.heap.size (lb + 3) (xs.map bv ++ List.replicate 3 (bv 71))) := Lib.hid (by obtain ⟨cur, a1, a2, a3⟩ := HRow4.out; exact ⟨cur, hw.kept.heap a1 (fun hm => by have := HB1.out.r.lt _ hm; omega), a2, a3⟩); have HK5 := Lib.hid hw; clear hw hfit)
    | (go_at_call 56; refine (spoil_some _ W1.heap.size lb (lb + 3) (by omega) (Raw.of_row HRow5.out Hn.out (by omega))).mono ?_; rintro e W6 ⟨rfl, hk⟩; have HK6 := Lib.hid hk; clear hk))
  go_ret2
  have hz2 : W1.heap.size < W2.heap.size := (Array.getElem?_eq_some_iff.1 HRow.out.choose_spec.1).1
  have hz3 := HK3.out.size
  have hz4 : (W3.drewN m).heap.size = W3.heap.size := rfl
  have hB6 := HB5.out.stayS HK6.out (fun i hi e => by rcases HFt.out i hi with h | h; have := HB1.out.f.lt i h; omega; omega) (fun i hi e => by rcases HK5.out.feet i hi with h | h; have := HB1.out.r.lt i h; omega; omega) (fun i hi e => by have := HB1.out.kept.size; omega)
  exact ⟨F, M, v', ps', rs', clk', lim, arm', dn', by simp, hB6, HFit.out⟩
end Go.Proofs.YthkncfdgfbnchaaDoor
end

/-! FilesPlay: step: Fork. -/
section
set_option linter.unusedVariables false
set_option linter.unusedSimpArgs false
namespace Go.Proofs.YthkncfdgfbnchaaDoor
open Go.RowKit Go.Sort

set_option maxRecDepth 100000 in
set_option maxHeartbeats 8000000 in
theorem step_fork (nm to_ : ByteArray) (Ab : Option Addr) (lb cb : Nat) (N : Int) (Ak : Option Addr) (lk ck : Nat) (w W : World) (F M R : Nat) (v : Value) (ps : List PF) (rs : List RV) (clock : Nat) (lim arm : Int) (dn : Bool) (nb : Nat) (hnb : nb + 1 ≤ 1000) (hB : Both w W F M R v ps rs clock lim arm dn lim arm dn) (hf : Fit (ps.map PF.core) rs nb) :
    Calls Tryd.prog 24 #[.pointer (some ⟨F, 0, none⟩), .pointer (some ⟨R, 0, none⟩), opV 10 nm to_ Ab lb cb N Ak lk ck] W (StepPost w R nb) := by
  obtain ⟨W1, hW1⟩ : ∃ W1, W1 = W.alloc (.cells #[.int .i64 10, .string nm, .string to_, .slice Ab lb cb, .int .i64 N, .slice Ak lk ck] 47) := ⟨_, rfl⟩
  obtain ⟨D, hD⟩ : ∃ D, D = W.heap.size := ⟨_, rfl⟩
  have hO : OpAt W1 D 10 nm to_ Ab lb cb N Ak lk ck := ⟨by rw [hW1, hD]; exact heap_alloc_new W _⟩
  have hk1 : Kept (fun _ => False) W W1 := by rw [hW1]; exact (Kept.refl _ W).alloc _
  have HB1 := Lib.hid (hB.stay hk1)
  have HO1 := Lib.hid hO
  have hDf : D ∉ foot F M ps := fun h => by have := hB.f.lt D h; omega
  have hDr : D ∉ rfoot R v rs := fun h => by have := hB.r.lt D h; omega
  have HDf := Lib.hid hDf
  have HDr := Lib.hid hDr
  have Hf := Lib.hid hf
  have c0 := hO.c0
  have c1 := hO.c1
  have c4 := hO.c4
  have c5 := hO.c5
  have HFk := Lib.hid (fork_any W1 F M ps clock lim arm dn HB1.out.f)
  have Hnb := Lib.hid hnb
  clear hnb
  unfold opV
  clear hB hf hO hk1 hDf hDr
  go_enter Tryd.func24, Tryd.ntmps24
  rw [hD] at c0 c1 c4 c5
  rw [hW1] at c0 c1 c4 c5
  go_upto_region 34 with fail
  rw [← hW1, ← hD]
  rw [← hW1, ← hD] at c0 c1 c4 c5
  clear hW1 hD
  go_wp2_with (first
    | (go_at_call 34; refine HFk.out.mono ?_; rintro e W2 ⟨G, M2, qs, clk, rfl, hG, hperm, hk, hnew⟩; have HG := Lib.hid hG; have HPerm := Lib.hid hperm; have HK2 := Lib.hid hk; have HNew := Lib.hid hnew; have HB2 := Lib.hid (HB1.out.stay hk); clear hG hperm hk hnew)
    | (go_at_call 12; obtain ⟨er, cs, arm', dn', hcb, hFc, -⟩ := append_pair (W := W2.alloc (.cells #[.int .u8 1] 5)) (R := R) (v := v) (clock := clock) ⟨#[103, 111, 110, 101]⟩ (some ⟨W2.heap.size, 0, none⟩) none 1 1 0 [1] nb (by decide) rfl (by decide) Hnb.out ((HB2.out.stay ((Kept.refl (fun _ => False) W2).alloc _)).f) Hf.out (bs_new W2 [1] _ rfl 5) (fun e => by simp at e) (fun ad e => by injection e with e; subst e; exact .inr fun e => by have := HB2.out.f.lt M (by simp [foot]); simp only at e; omega) (fun _ => rfl) (fun ad e => by simp at e); refine hFc.mono ?_; clear hFc; rintro e W4 ⟨rfl, ps', clk', hw, hcs⟩; have HW4 := Lib.hid hw; have HCb := Lib.hid hcb; have HCs := Lib.hid hcs; have HB4 := Lib.hid ((HB2.out.stay ((Kept.refl (fun _ => False) W2).alloc _)).goF hw); clear hw hcb hcs)
    | (go_at_call 17; refine (crash_any W4 F M ps' clk' lim arm' dn' none 0 0 HB4.out.f (by have := HCb.out.2; rw [← HCs.out] at this; simpa using this) (fun p hp => by have := HCb.out.1 p.core (by rw [← HCs.out]; exact List.mem_map_of_mem hp); exact this) (Lib.hid fun j hj => absurd hj (Nat.not_lt_zero _))).mono ?_; rintro e W5 ⟨rfl, qs5, hw, -⟩; have HW5 := Lib.hid hw; have HB5 := Lib.hid (HB4.out.goF hw); clear hw))
  go_ret2
  have hsz3 : (W2.alloc (.cells #[.int .u8 1] 5)).heap.size = W2.heap.size + 1 := by simp
  have hG3 : FilesAt W4 G M2 qs clk lim arm dn := (HG.out.kept ((Kept.refl (fun _ => False) W2).alloc _) (by simp)).kept HW4.out.kept fun i hi hm => by
    have h1 := HNew.out i hi
    have h2 := HB1.out.f.lt i hm
    omega
  have hG5 : FilesAt W5 G M2 qs clk lim arm dn := hG3.kept HW5.out.kept fun i hi hm => by
    have h1 := HNew.out i hi
    have h3 := HG.out.lt i hi
    rcases HW4.out.feet i hm with h | h
    · have h2 := HB1.out.f.lt i h; omega
    · omega
  refine ⟨G, M2, v, qs, rs, clk, lim, arm, dn, rfl, ⟨hG5, HB5.out.r, fun i hi => ?_, HB5.out.rnew, fun i hi hm => ?_, HB5.out.kept⟩, ⟨HPerm.out.trans Hf.out.perm, Hf.out.sorted, Hf.out.names, Hf.out.used, Hf.out.few⟩⟩
  · have h1 := HNew.out i hi
    have := HB1.out.kept.size
    omega
  · have h1 := HNew.out i hi
    have h2 := HB1.out.r.lt i hm
    omega
end Go.Proofs.YthkncfdgfbnchaaDoor
end

/-! FilesPlay: step, whatever the kind. -/
section
set_option linter.unusedVariables false
set_option linter.unusedSimpArgs false
namespace Go.Proofs.YthkncfdgfbnchaaDoor
open Go.RowKit Go.Sort

theorem StepPost.more {w : World} {R n m : Nat} {e : Ending} {W' : World} (h : StepPost w R n e W') (hm : n ≤ m) : StepPost w R m e W' := by
  obtain ⟨F', M', v', ps', rs', clock', lim', arm', dn', he, hB, hf⟩ := h
  exact ⟨F', M', v', ps', rs', clock', lim', arm', dn', he, hB, hf.more hm⟩
/-- An op that came in. -/
structure OpOk (w : World) (nm to_ : ByteArray) (Ab : Option Addr) (lb cb : Nat) (N : Int) (Ak : Option Addr) (lk ck : Nat) : Prop where
  nm : nm.size ≤ 140737488355328
  to : to_.size ≤ 140737488355328
  n : N ≤ 9223372036854775807
  b : ∃ xs : List UInt8, lb = xs.length ∧ Bs w Ab xs ∧ (Ab = none → cb = 0) ∧ ∀ ad, Ab = some ad → xs = [] ∨ ad.block < w.heap.size
  k : ∃ zs : List Int, ∀ j, j < lk → ∃ ad, Ak = some ad ∧ w.cell? (ad.add j) = some (.int .i64 (zs.getD j 0))
theorem step_any (k : Int) (nm to_ : ByteArray) (Ab : Option Addr) (lb cb : Nat) (N : Int) (Ak : Option Addr) (lk ck : Nat) (w W : World) (F M R : Nat) (v : Value) (ps : List PF) (rs : List RV) (clock : Nat) (lim arm : Int) (dn : Bool) (nb : Nat) (ho : OpOk w nm to_ Ab lb cb N Ak lk ck) (hl : lb ≤ 5000) (hnb : nb + 1 ≤ 1000) (hB : Both w W F M R v ps rs clock lim arm dn lim arm dn) (hf : Fit (ps.map PF.core) rs nb) :
    Calls Tryd.prog 24 #[.pointer (some ⟨F, 0, none⟩), .pointer (some ⟨R, 0, none⟩), opV k nm to_ Ab lb cb N Ak lk ck] W (StepPost w R (nb + 1)) := by
  have up : ∀ (e : Ending) (w' : World), StepPost w R nb e w' → StepPost w R (nb + 1) e w' := fun e w' h => h.more (Nat.le_succ _)
  obtain ⟨xs, hn, hx, hA, hw⟩ := ho.b
  obtain ⟨zs, hks⟩ := ho.k
  by_cases h1 : k = 1
  · subst h1; exact (step_sync nm to_ Ab lb cb N Ak lk ck w W F M R v ps rs clock lim arm dn nb ho.to hB hf).mono up
  by_cases h2 : k = 2
  · subst h2; exact (step_trunc nm to_ Ab lb cb N Ak lk ck w W F M R v ps rs clock lim arm dn nb ho.to hB hf).mono up
  by_cases h3 : k = 3
  · subst h3; exact (step_rename nm to_ Ab lb cb N Ak lk ck w W F M R v ps rs clock lim arm dn nb ho.to hB hf).mono up
  by_cases h4 : k = 4
  · subst h4; exact (step_remove nm to_ Ab lb cb N Ak lk ck w W F M R v ps rs clock lim arm dn nb ho.to hB hf).mono up
  by_cases h5 : k = 5
  · subst h5; exact (step_read nm to_ Ab lb cb N Ak lk ck w W F M R v ps rs clock lim arm dn nb hB hf).mono up
  by_cases h6 : k = 6
  · subst h6; exact (step_limit nm to_ Ab lb cb N Ak lk ck w W F M R v ps rs clock lim arm dn nb hB hf).mono up
  by_cases h7 : k = 7
  · subst h7; exact (step_arm nm to_ Ab lb cb N Ak lk ck w W F M R v ps rs clock lim arm dn nb ho.n hB hf).mono up
  by_cases h8 : k = 8
  · subst h8; exact (step_crash nm to_ Ab lb cb N Ak lk ck w W F M R v ps rs clock lim arm dn nb zs hks hB hf).mono up
  by_cases h9 : k = 9
  · subst h9
    cases dn with
    | true => exact (step_startD nm to_ Ab lb cb N Ak lk ck w W F M R v ps rs clock lim arm true nb rfl hB hf).mono up
    | false => exact (step_startU nm to_ Ab lb cb N Ak lk ck w W F M R v ps rs clock lim arm false nb rfl hB hf).mono up
  by_cases h10 : k = 10
  · subst h10; exact (step_fork nm to_ Ab lb cb N Ak lk ck w W F M R v ps rs clock lim arm dn nb hnb hB hf).mono up
  have ne : ∀ i : Int, k ≠ i → (k == i) = false := fun i h => by rw [beq_eq_false_iff_ne]; exact h
  exact step_append nm to_ Ab lb cb N Ak lk ck w W F M R v ps rs clock lim arm dn nb k (ne _ h1) (ne _ h2) (ne _ h3) (ne _ h4) (ne _ h5) (ne _ h6) (ne _ h7) (ne _ h8) (ne _ h9) (ne _ h10) xs ho.nm hn hl hnb hx hA hw hB hf
end Go.Proofs.YthkncfdgfbnchaaDoor
end
