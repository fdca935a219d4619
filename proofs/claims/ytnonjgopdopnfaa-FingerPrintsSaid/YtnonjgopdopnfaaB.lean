import Derived.Test.YtnonjgopdopnfaaA
import Derived.Test.YtnonjgopdopnfaaM
import Derived.Laws.CopyOwn
set_option linter.unusedVariables false
set_option linter.unusedSimpArgs false
namespace Go.Proofs.Ytnonjgopdopnfaa
open Go.RowKit

def u64 (v : Nat) : Value := .int .u64 (v : Int)
theorem and_one (v : Nat) (h : v < 18446744073709551616) : bits .and .u64 (v : Int) 1 = ((v % 2 : Nat) : Int) := by
  have h1 : (BitVec.ofInt 64 (v : Int)).toNat = v := by
    rw [BitVec.ofInt_natCast, BitVec.toNat_ofNat]; exact Nat.mod_eq_of_lt (by omega)
  show IntKind.u64.wrap ((BitVec.ofInt 64 (v : Int) &&& BitVec.ofInt 64 (1 : Int)).toNat : Int) = _
  rw [BitVec.toNat_and, h1, IntKind.wrap_u64, show (BitVec.ofInt 64 (1 : Int)).toNat = 1 from by decide, Nat.and_one_is_mod]
  omega
theorem zero27 : ∀ w, (zeroValue 27).run Try.prog w = .ok (.agg (Array.replicate 256 (.int .u64 0))) w := fun w => by kernel_rfl
theorem info27 : (Try.prog.info? 27).map (·.size) = some 256 := by kernel_rfl
theorem wpL_alloc {P : Program} (w : World) {ops : Array Oper} {rest : List Oper} {o : Oper} {a : Act} {Q : Exit → Act → World → Prop}
    (hg : o.guard = none) (t : TypeId) (hop : o.op = Op.alloc t) (z : Value) (hz : ∀ w, (zeroValue t).run P w = .ok z w)
    (hK : wpList P ops Q rest (a.put o.dst (.pointer (some ⟨w.heap.size, 0, none⟩))) (w.alloc (.cells z.cells t))) :
    wpList P ops Q (o :: rest) a w := by
  refine wpList_plain hg fun K hK' => ?_
  unfold Oper.wp
  simp [execOp, hop, Instr.alloc, hz, newVar, newRow, go_sem]
  exact hK' _ _ hK

/-- A block of words of the call's own: its first cells are known. -/
def Wds (w : World) (B k : Nat) (f : Nat → Nat) : Prop :=
  ∃ cur : Array Value, w.heap[B]? = some (.cells cur 27 (0, 0)) ∧ cur.size = 256 ∧ (∀ j, j < 256 → ∃ n : Nat, cur[j]? = some (u64 n)) ∧ ∀ (j : Nat), j < k → cur[j]? = some (u64 (f j))
theorem Wds.cell {w : World} {B k : Nat} {f : Nat → Nat} (h : Wds w B k f) (j : Nat) (hj : j < 256) : ∃ n : Nat, w.cell? ⟨B, j, none⟩ = some (.int .u64 n) := by
  obtain ⟨cur, h1, h2, h3, h4⟩ := h
  obtain ⟨n, hn⟩ := h3 j hj
  exact ⟨n, by simp [World.cell?, h1, hn, u64]⟩
theorem Wds.at {w : World} {B k : Nat} {f : Nat → Nat} (h : Wds w B k f) (j : Nat) (hj : j < k) : w.cell? ⟨B, j, none⟩ = some (.int .u64 (f j)) := by
  obtain ⟨cur, h1, h2, h3, h4⟩ := h
  simp [World.cell?, h1, h4 j hj, u64]
theorem Wds.frozen {w : World} {B k : Nat} {f : Nat → Nat} (h : Wds w B k f) (j : Nat) : w.frozen? ⟨B, j, none⟩ = false := by
  obtain ⟨cur, h1, h2, h3⟩ := h
  simp [World.frozen?, h1]
theorem Wds.push {w : World} {B k : Nat} {f : Nat → Nat} (h : Wds w B k f) (v : Int) (hv : v = (f k : Nat)) (hk : k < 256) : Wds (w.setCell ⟨B, k, none⟩ (.int .u64 v)) B (k + 1) f := by
  obtain ⟨cur, h1, h2, h3, h4⟩ := h
  subst hv
  refine ⟨cur.setIfInBounds k (u64 (f k)), ?_, by simp [h2], ?_, ?_⟩
  · simp only [World.setCell, Array.getElem?_modify, if_true, h1]; rfl
  · intro j hj
    by_cases e : k = j
    · subst e; exact ⟨_, Array.getElem?_setIfInBounds_self_of_lt (by omega)⟩
    · rw [Array.getElem?_setIfInBounds_ne e]; exact h3 j hj
  · intro j hj
    by_cases e : k = j
    · subst e; exact Array.getElem?_setIfInBounds_self_of_lt (by omega)
    · rw [Array.getElem?_setIfInBounds_ne e]; exact h4 j (by omega)
def tabV (f : Nat → Nat) : Array Value := Array.ofFn fun i : Fin 256 => u64 (f i)
theorem tabV_size (f : Nat → Nat) : (tabV f).size = 256 := by simp [tabV]
theorem tabV_one (f : Nat → Nat) : (tabV f).all (·.oneCell') = true := by
  rw [Array.all_eq_true]
  intro i hi
  simp [tabV, u64, Value.oneCell']
theorem Wds.full {w : World} {B : Nat} {f : Nat → Nat} (h : Wds w B 256 f) : w.heap[B]? = some (.cells (tabV f) 27 (0, 0)) := by
  obtain ⟨cur, h1, h2, h3, h4⟩ := h
  have : cur = tabV f := by
    unfold tabV
    apply Array.ext
    · simp [h2]
    · intro i hi1 hi2
      have := h4 i (by omega)
      rw [Array.getElem?_eq_getElem hi1] at this
      simpa using this
  rw [h1, this]
theorem Wds.new (w : World) (f : Nat → Nat) : Wds (w.alloc (.cells (Array.replicate 256 (.int .u64 0)) 27)) w.heap.size 0 f :=
  ⟨_, heap_alloc_new w _, by simp, fun j hj => ⟨0, by simp [hj, u64]⟩, fun j hj => by omega⟩

set_option maxRecDepth 100000 in
set_option maxHeartbeats 400000 in
theorem table_any (w : World) : Calls Try.prog 9 #[] w fun e w' => e = .returned (.agg (tabV tab)) ∧ Below w.heap.size w w' := by
  obtain ⟨cs, hcs⟩ : ∃ cs : Array Value, cs = Array.replicate 256 (.int .u64 0) := ⟨_, rfl⟩
  have hz := zero27
  rw [← hcs] at hz
  have Hz := Lib.hid hz
  have Hcs := Lib.hid hcs
  clear hz hcs
  go_enter Try.func9, Try.ntmps9
  go_wp2_with (first | (refine wpL_alloc _ rfl 27 rfl (.agg cs) Hz.out ?_))
  have h0 : (w.alloc (.cells cs 27)).heap[w.heap.size]? = some (.cells cs 27 (0, 0)) := heap_alloc_new w _
  go_loopw [2, 3, 4] (fun _ _ i wr => ∃ k : Nat, k ≤ 256 ∧ i = .int .i64 k ∧ Wds wr (w.heap.size + 1) k tab ∧ wr.heap[w.heap.size]? = some (.cells cs 27 (0, 0)) ∧ Below w.heap.size w wr) (fun _ _ i _ => 256 - (intOf i).toNat)
  case atStart =>
    refine ⟨0, by omega, by simp, ?_, ?_, ((Below.refl _ _).alloc (Nat.le_refl _) _).alloc (by simp) _⟩
    · have := Wds.new (w.alloc (.cells cs 27)) tab
      simp only [World.size_alloc] at this
      rw [← Hcs.out] at this
      exact this
    · rw [heap_alloc_old _ _ (by simp)]; exact h0
  case round =>
    obtain ⟨k, hk, rfl, hr, hr0, hB⟩ := hrel
    have HB := Lib.hid hB
    have HR := Lib.hid hr
    have HR0 := Lib.hid hr0
    clear hB hr hr0 h0
    by_cases hlt : k < 256
    · go_wp2
      go_loop [3, 9] (fun v i => ∃ j x : Nat, j ≤ 8 ∧ i = .int .i64 j ∧ v = .int .u64 x ∧ Hid (x = stp j k)) (fun _ i => 8 - (intOf i).toNat)
      case atStart => exact ⟨0, k, by omega, rfl, rfl, Lib.hid rfl⟩
      case round =>
        obtain ⟨j, x, hj, rfl, rfl, hx⟩ := hrel
        have hxl : x < 18446744073709551616 := by rw [hx.out]; exact stp_lt j (by omega)
        by_cases hj8 : j < 8
        · have ha := and_one x hxl
          by_cases hodd : x % 2 = 1
          · have ht : (bits .and .u64 (x : Int) 1 != 0) = true := by rw [ha, hodd]; rfl
            have HX := Lib.hid (show bits .xor .u64 ((x : Int) / 2) 13933329357911598997 = ((stp (j + 1) k : Nat) : Int) by
              rw [stp, ← hx.out, stepB, if_pos hodd]; exact bits_xor_u64_nat (x / 2) E0 (by omega) E0_lt)
            clear ha hodd
            have Hxl := Lib.hid hxl
            clear hxl
            go_wp2
            go_round
            case rel => exact ⟨j + 1, stp (j + 1) k, by omega, by go_num, by rw [HX.out], Lib.hid rfl⟩
            case measure => simp [intOf]; omega
          · have ht : (bits .and .u64 (x : Int) 1 != 0) = false := by rw [ha, show x % 2 = 0 by omega]; rfl
            have HX := Lib.hid (show (x : Int) / 2 = ((stp (j + 1) k : Nat) : Int) by
              rw [stp, ← hx.out, stepB, if_neg hodd]; omega)
            clear ha hodd
            have Hxl := Lib.hid hxl
            clear hxl
            go_wp2
            go_round
            case rel => exact ⟨j + 1, stp (j + 1) k, by omega, by go_num, by rw [HX.out], Lib.hid rfl⟩
            case measure => simp [intOf]; omega
        · obtain rfl : j = 8 := by omega
          obtain ⟨n, hc⟩ := HR.out.cell k hlt
          have hf := HR.out.frozen k
          have Hxl := Lib.hid hxl
          clear hxl
          go_wp2
          go_roundw
          case rel => exact ⟨k + 1, by omega, by go_num, HR.out.push _ (by rw [hx.out]; rfl) hlt, by rw [Below.heap_setCell _ _ _ _ (by simp)]; exact HR0.out, HB.out.setCell (by simp) _⟩
          case measure => simp [intOf]; omega
    · obtain rfl : k = 256 := by omega
      go_wp2_with (first | (refine wpList_load_row rfl 27 _ rfl (w.heap.size + 1) rfl 27 _ (0, 0) _ HR.out.full Try.underlying27 rfl (by rw [info27, tabV_size]) ?_) | (refine wpList_store_row rfl 27 _ _ rfl w.heap.size _ rfl rfl 27 cs HR0.out (by rw [info27, tabV_size]) (by rw [Hcs.out, tabV_size]; simp) (tabV_one _) ?_))
      exact bodyPost_ret (v := .agg (tabV tab)) (results_cell_row rfl _ _ w.heap.size 27 _ (0, 0) _ rfl (setRow_heap _ _ _ _ _ _ HR0.out) Try.underlying27 rfl (by rw [info27, tabV_size])) rfl ⟨rfl, below_setRow HB.out (Nat.le_refl _) _⟩

set_option maxRecDepth 100000 in
set_option maxHeartbeats 400000 in
theorem rtable_any (w : World) : Calls Try.prog 10 #[] w fun e w' => e = .returned (.agg (tabV tab)) ∧ Below w.heap.size w w' := by
  obtain ⟨cs, hcs⟩ : ∃ cs : Array Value, cs = Array.replicate 256 (.int .u64 0) := ⟨_, rfl⟩
  have hz := zero27
  rw [← hcs] at hz
  have Hz := Lib.hid hz
  have Hcs := Lib.hid hcs
  clear hz hcs
  go_enter Try.func10, Try.ntmps10
  go_wp2_with (first | (refine wpL_alloc _ rfl 27 rfl (.agg cs) Hz.out ?_))
  have h0 : (w.alloc (.cells cs 27)).heap[w.heap.size]? = some (.cells cs 27 (0, 0)) := heap_alloc_new w _
  go_loopw [2, 3, 4, 5] (fun i _ _ _ wr => ∃ k : Nat, k ≤ 256 ∧ i = .int .i64 k ∧ Wds wr (w.heap.size + 1) k tab ∧ wr.heap[w.heap.size]? = some (.cells cs 27 (0, 0)) ∧ Below w.heap.size w wr) (fun i _ _ _ _ => 256 - (intOf i).toNat)
  case atStart =>
    refine ⟨0, by omega, by simp, ?_, ?_, ((Below.refl _ _).alloc (Nat.le_refl _) _).alloc (by simp) _⟩
    · have := Wds.new (w.alloc (.cells cs 27)) tab
      simp only [World.size_alloc] at this
      rw [← Hcs.out] at this
      exact this
    · rw [heap_alloc_old _ _ (by simp)]; exact h0
  case round =>
    obtain ⟨k, hk, rfl, hr, hr0, hB⟩ := hrel
    have HB := Lib.hid hB
    have HR := Lib.hid hr
    have HR0 := Lib.hid hr0
    clear hB hr hr0 h0
    by_cases hlt : k < 256
    · go_wp2
      go_loop [3, 4, 5] (fun v i _ => ∃ j x : Nat, j ≤ 8 ∧ i = .int .i64 j ∧ v = .int .u64 x ∧ Hid (x = stp j k)) (fun _ i _ => 8 - (intOf i).toNat)
      case atStart => exact ⟨0, k, by omega, rfl, rfl, Lib.hid rfl⟩
      case round =>
        obtain ⟨j, x, hj, rfl, rfl, hx⟩ := hrel
        have hxl : x < 18446744073709551616 := by rw [hx.out]; exact stp_lt j (by omega)
        by_cases hj8 : j < 8
        · have ha := and_one x hxl
          by_cases hodd : x % 2 = 1
          · have ht : (bits .and .u64 (x : Int) 1 == 1) = true := by rw [ha, hodd]; rfl
            have HX := Lib.hid (show bits .xor .u64 ((x : Int) / 2) 13933329357911598997 = ((stp (j + 1) k : Nat) : Int) by
              rw [stp, ← hx.out, stepB, if_pos hodd]; exact bits_xor_u64_nat (x / 2) E0 (by omega) E0_lt)
            clear ha hodd
            have Hxl := Lib.hid hxl
            clear hxl
            go_wp2
            go_round
            case rel => exact ⟨j + 1, stp (j + 1) k, by omega, by go_num, by rw [HX.out], Lib.hid rfl⟩
            case measure => simp [intOf]; omega
          · have ht : (bits .and .u64 (x : Int) 1 == 1) = false := by rw [ha, show x % 2 = 0 by omega]; rfl
            have HX := Lib.hid (show (x : Int) / 2 = ((stp (j + 1) k : Nat) : Int) by
              rw [stp, ← hx.out, stepB, if_neg hodd]; omega)
            clear ha hodd
            have Hxl := Lib.hid hxl
            clear hxl
            go_wp2
            go_round
            case rel => exact ⟨j + 1, stp (j + 1) k, by omega, by go_num, by rw [HX.out], Lib.hid rfl⟩
            case measure => simp [intOf]; omega
        · obtain rfl : j = 8 := by omega
          obtain ⟨n, hc⟩ := HR.out.cell k hlt
          have hf := HR.out.frozen k
          have Hxl := Lib.hid hxl
          clear hxl
          go_wp2
          go_roundw
          case rel => exact ⟨k + 1, by omega, by go_num, HR.out.push _ (by rw [hx.out]; rfl) hlt, by rw [Below.heap_setCell _ _ _ _ (by simp)]; exact HR0.out, HB.out.setCell (by simp) _⟩
          case measure => simp [intOf]; omega
    · obtain rfl : k = 256 := by omega
      go_wp2_with (first | (refine wpList_load_row rfl 27 _ rfl (w.heap.size + 1) rfl 27 _ (0, 0) _ HR.out.full Try.underlying27 rfl (by rw [info27, tabV_size]) ?_) | (refine wpList_store_row rfl 27 _ _ rfl w.heap.size _ rfl rfl 27 cs HR0.out (by rw [info27, tabV_size]) (by rw [Hcs.out, tabV_size]; simp) (tabV_one _) ?_))
      exact bodyPost_ret (v := .agg (tabV tab)) (results_cell_row rfl _ _ w.heap.size 27 _ (0, 0) _ rfl (setRow_heap _ _ _ _ _ _ HR0.out) Try.underlying27 rfl (by rw [info27, tabV_size])) rfl ⟨rfl, below_setRow HB.out (Nat.le_refl _) _⟩

end Go.Proofs.Ytnonjgopdopnfaa
