import Derived.Test.YtefpigakhhfcaaaDoorMau
import Derived.Test.YtefpigakhhfcaaaDoorMaq
/-! frame.number. -/
section
set_option linter.unusedVariables false
set_option linter.unusedSimpArgs false
namespace Go.Proofs.YtefpigakhhfcaaaDoor
open Go.RowKit Go.Sort
attribute [local go_sem] Oper.semAt_some

theorem make_bytes (W : World) (N : Nat) (hN : N < 800) : (Instr.makeSlice 31 (.int .i64 (N : Int)) (.int .i64 (N : Int))).run Tryd.prog W = .ok (.slice (some ⟨W.heap.size, 0, none⟩) N N) (W.alloc (.cells (List.replicate N (Value.int .u8 0)).toArray 5)) := by
  obtain ⟨i0, hi, hz0, hz1, hz2⟩ := info_parts infoU8
  have := run_makeSlice (P := Tryd.prog) W 31 5 i0 (.int .u8 0) Tryd.underlying31 hi hz0 .i64 .i64 (N : Int) (N : Int) (by omega) (Int.le_refl _) (by rw [hz1]; simp; omega) (by rw [hz2]; omega) (by omega)
  rw [this]
  have e : madeCells (Value.int .u8 0).cells ((N : Int).toNat * i0.size) = (List.replicate N (Value.int .u8 0)).toArray := by
    apply Array.ext'
    rw [hz1, show (Value.int .u8 0).cells = #[.int .u8 0] from rfl, toList_madeCells_one]
    simp
  rw [e]
  simp
/-- A number in so many bytes, the highest first. -/
def numAt (k v i : Nat) : UInt8 := UInt8.ofNat (v / 2 ^ (8 * (k - 1 - i)) % 256)
def numN (k v : Nat) : List UInt8 := (List.range k).map (numAt k v)
theorem numN_len (k v : Nat) : (numN k v).length = k := by simp [numN]
def rowN (k v i : Nat) : List Value := ((List.range i).map (numAt k v)).map bv ++ List.replicate (k - i) (.int .u8 0)
theorem rowN_len (k v i : Nat) (h : i ≤ k) : (rowN k v i).length = k := by simp [rowN]; omega
theorem rowN_at (k v i : Nat) (h : i < k) : (rowN k v i)[i]? = some (.int .u8 0) := by
  unfold rowN
  rw [List.getElem?_append_right (by simp), show i - (((List.range i).map (numAt k v)).map bv).length = 0 by simp, List.getElem?_replicate, if_pos (by omega)]
theorem rowN_set (k v i : Nat) (h : i < k) : (rowN k v i).set i (bv (numAt k v i)) = rowN k v (i + 1) := by
  unfold rowN
  rw [List.set_append_right _ _ (by simp), show k - i = (k - (i + 1)) + 1 by omega, List.replicate_succ]
  simp only [List.length_map, List.length_range, Nat.sub_self, List.set_cons_zero, List.range_succ, List.map_append, List.map_cons, List.map_nil, List.append_assoc, List.singleton_append]
set_option maxRecDepth 100000 in
set_option maxHeartbeats 4000000 in
theorem number_any (w : World) (v k : Nat) (hv : v < 18446744073709551616) (hk : 1 ≤ k ∧ k ≤ 8) : Calls Tryd.prog 52 #[.int .u64 (v : Nat), .int .i64 (k : Nat)] w (ClonePost w (numN k v)) := by
  have hmk := fun W => make_bytes W k (by omega)
  have hk8 : (k : Int) ≤ 8 := by omega
  refine calls_of_marks Tryd.func52 rfl ?_
  simp only [Tryd.ntmps52, List.size_toArray, List.length_cons, List.length_nil, Nat.reduceAdd, Nat.reduceSub, Array.replicate_succ, Array.replicate_zero, List.push_toArray, List.append_toArray, List.nil_append, List.cons_append]
  go_wp2_with (first
    | (go_at_call 63; refine (allB_of _ _ _ _).mono ?_; rintro e w' ⟨rfl, rfl⟩))
  obtain ⟨O, hO⟩ : ∃ O, O = w.heap.size := ⟨_, rfl⟩
  obtain ⟨W0, hW0⟩ : ∃ W0, W0 = (((((w.alloc (.cells #[.int .u64 (v : Nat)] 23)).alloc (.cells #[.int .i64 (k : Nat)] 3)).alloc (.cells (Array.replicate k (.int .u8 0)) 5)).alloc (.cells #[.slice (some ⟨w.heap.size + 1 + 1, 0, none⟩) k k] 31)).alloc (.cells #[.slice (some ⟨w.heap.size + 1 + 1, 0, none⟩) k k] 31)) := ⟨_, rfl⟩
  rw [← hW0]
  have hkW : Kept (fun _ => False) w W0 := by rw [hW0]; exact (((((Kept.refl _ w).alloc _).alloc _).alloc _).alloc _).alloc _
  have hsz : W0.heap.size = O + 5 := by rw [hW0, hO]; simp
  have hb0 : Boxed W0 O 23 (.int .u64 (v : Nat)) := by
    rw [hW0, hO]; exact ((((Boxed.new w 23 _).alloc _).alloc _).alloc _).alloc _
  have hb1 : Boxed W0 (O + 1) 3 (.int .i64 (k : Nat)) := by
    have := (((Boxed.new (w.alloc (.cells #[.int .u64 (v : Nat)] 23)) 3 (.int .i64 (k : Nat))).alloc (.cells (Array.replicate k (.int .u8 0)) 5)).alloc (.cells #[.slice (some ⟨w.heap.size + 1 + 1, 0, none⟩) k k] 31)).alloc (.cells #[.slice (some ⟨w.heap.size + 1 + 1, 0, none⟩) k k] 31)
    rw [hW0, hO]; simpa using this
  have hb2 : W0.heap[O + 1 + 1]? = some (.cells (rowN k v 0).toArray 5 (0, 0)) := by
    have h1 := heap_alloc_new ((w.alloc (.cells #[.int .u64 (v : Nat)] 23)).alloc (.cells #[.int .i64 (k : Nat)] 3)) (.cells (Array.replicate k (.int .u8 0)) 5)
    have hr : rowN k v 0 = List.replicate k (.int .u8 0) := by simp [rowN]
    rw [hW0, heap_alloc_old _ _ (by simp [hO]), heap_alloc_old _ _ (by simp [hO])]
    rw [hr, hO]
    simpa using h1
  have hb3 : Boxed W0 (O + 1 + 1 + 1) 31 (.slice (some ⟨O + 1 + 1, 0, none⟩) k k) := by
    have := (Boxed.new (((w.alloc (.cells #[.int .u64 (v : Nat)] 23)).alloc (.cells #[.int .i64 (k : Nat)] 3)).alloc (.cells (Array.replicate k (.int .u8 0)) 5)) 31 (.slice (some ⟨w.heap.size + 1 + 1, 0, none⟩) k k)).alloc (.cells #[.slice (some ⟨w.heap.size + 1 + 1, 0, none⟩) k k] 31)
    rw [hW0, hO]; simpa using this
  have hb4 : Boxed W0 (O + 1 + 1 + 1 + 1) 31 (.slice (some ⟨O + 1 + 1, 0, none⟩) k k) := by
    have := Boxed.new ((((w.alloc (.cells #[.int .u64 (v : Nat)] 23)).alloc (.cells #[.int .i64 (k : Nat)] 3)).alloc (.cells (Array.replicate k (.int .u8 0)) 5)).alloc (.cells #[.slice (some ⟨w.heap.size + 1 + 1, 0, none⟩) k k] 31)) 31 (.slice (some ⟨w.heap.size + 1 + 1, 0, none⟩) k k)
    rw [hW0, hO]; simpa using this
  clear hW0
  rw [← hO]
  have HO := Lib.hid hO
  have hOle : w.heap.size ≤ O := by omega
  have HOle := Lib.hid hOle
  clear hO
  have hit := allB_iter (O + 1 + 1 + 1 + 1) (O + 1 + 1) k W0 hb4 (by omega)
  refine wp_rangeC (gf := 74) rfl (enters_of Tryd.func74 (by kernel_rfl) rfl) hit (fun _ => rfl) (fun k h => h.elim) (fun k h => h.elim)
    (fun pre W => Boxed W O 23 (.int .u64 (v : Nat)) ∧ Boxed W (O + 1) 3 (.int .i64 (k : Nat)) ∧ W.heap[O + 1 + 1]? = some (.cells (rowN k v pre.length).toArray 5 (0, 0)) ∧ Boxed W (O + 1 + 1 + 1) 31 (.slice (some ⟨O + 1 + 1, 0, none⟩) k k) ∧ Kept (fun _ => False) w W)
    (fun c pre W => False)
    (fun pre W h hlt => by simp [World.cell?, h.2.2.1, rowN_at k v pre.length hlt])
    (fun pre A C h hk => ⟨hk.heap h.1 (fun e => by rcases e with e | e | e; exact e; omega; omega), hk.heap h.2.1 (fun e => by rcases e with e | e | e; exact e; omega; omega), hk.heap h.2.2.1 (fun e => by rcases e with e | e | e; exact e; omega; omega), hk.heap h.2.2.2.1 (fun e => by rcases e with e | e | e; exact e; omega; omega), h.2.2.2.2.trans hk fun i hi e => by rcases e with e | e | e; exact e; omega; omega⟩)
    (fun c pre A C h hk => h.elim)
    ⟨hb0, hb1, hb2, hb3, hkW⟩
    (fun x => { tmps := #[.int .u64 (v : Nat), .int .i64 (k : Nat), .pointer (some ⟨O, 0, none⟩), .pointer (some ⟨O + 1, 0, none⟩), .slice none 0 0, .pointer (some ⟨O + 1 + 1 + 1, 0, none⟩), .int .i64 (x : Nat), .int .i64 (k : Nat), .slice (some ⟨O + 1 + 1, 0, none⟩) k k, .slice (some ⟨O + 1 + 1, 0, none⟩) k k, .func (.func 74) #[] #[.pointer (some ⟨O + 1 + 1 + 1 + 1, 0, none⟩)], .int .i64 (x : Nat), .int .u8 0, undef, undef, undef, undef, undef, undef, undef, undef, undef, undef, undef, undef], defers := [] }) ?assign ?body ?done ?stop
  case assign =>
    intro l x W K hK
    gi_wp2
    exact hK
  case body =>
    rintro l pre x post W hxs ⟨h0, h1, h2, h3, hk⟩ hsz2
    have hx : x = pre.length ∧ x < k := by
      have h5 : (List.range k)[pre.length]? = some x := by rw [hxs]; simp
      rcases Nat.lt_or_ge pre.length k with h7 | h7
      · rw [List.getElem?_range h7] at h5
        injection h5 with h5
        exact ⟨h5.symm, by omega⟩
      · rw [List.getElem?_eq_none (by simpa using h7)] at h5; cases h5
    obtain ⟨hx1, hx2⟩ := hx
    rw [← hx1] at h2
    have a0 := h0.cell
    have a1 := h1.cell
    have a3 := h3.cell
    have a2 : W.cell? ⟨O + 1 + 1, x, none⟩ = some (.int .u8 0) := by simp [World.cell?, h2, rowN_at k v x hx2]
    have f2 : W.frozen? ⟨O + 1 + 1, x, none⟩ = false := by simp [World.frozen?, h2]
    have hx9 : (x : Int) < (k : Int) := by omega
    obtain ⟨k1, hk1⟩ : ∃ k1, k1 = k - 1 := ⟨_, rfl⟩
    obtain ⟨m, hm⟩ : ∃ m, m = k1 - x := ⟨_, rfl⟩
    obtain ⟨s, hs⟩ : ∃ s, s = 8 * m := ⟨_, rfl⟩
    obtain ⟨z, hz⟩ : ∃ z, z = v / 2 ^ s := ⟨_, rfl⟩
    obtain ⟨u, hu⟩ : ∃ u, u = (numAt k v x).toNat := ⟨_, rfl⟩
    have hw1 : IntKind.i64.wrap ((k : Int) - 1) = (k1 : Int) := by rw [IntKind.wrap_i64]; omega
    have hw2 : IntKind.i64.wrap ((k1 : Int) - (x : Int)) = (m : Int) := by rw [IntKind.wrap_i64]; omega
    have hw3 : IntKind.i64.wrap (8 * (m : Int)) = (s : Int) := by rw [IntKind.wrap_i64]; omega
    have hsh : Op.shift .shr .u64 (v : Int) .i64 (s : Int) = pure (.int .u64 (z : Nat)) := by
      rw [shift_shr_any _ _ _ _ (by omega)]
      have h9 : ((v : Int)) / 2 ^ min ((s : Int)).toNat 64 = ((v / 2 ^ s : Nat) : Int) := by
        rw [Int.toNat_natCast, Nat.min_eq_left (by omega)]
        norm_cast
      rw [show IntKind.u64.bits = 64 from rfl, h9, hz]
    have hzu : IntKind.u8.wrap (z : Int) = (u : Int) := by
      rw [IntKind.wrap_u8, hu, numAt, show k - 1 - x = m by omega, ← hs, ← hz]
      simp
    have Hu := Lib.hid (show bv (numAt k v x) = .int .u8 (u : Nat) by rw [hu]; rfl)
    clear hk1 hm hs hz hu
    have H0 := Lib.hid h0
    have H1 := Lib.hid h1
    have H2 := Lib.hid h2
    have H3 := Lib.hid h3
    have HK := Lib.hid hk
    have HX := Lib.hid hx1
    have HS2 := Lib.hid hsz2
    clear h0 h1 h2 h3 hk hxs hit hsz2 hx1 hb0 hb1 hb2 hb3 hb4 hkW hmk hOle
    gi_wp2
    refine wpIn_still_drew 11 (by kernel_rfl) (by kernel_rfl) (by kernel_rfl) (fun ⟨_, _, h⟩ => h) ?_
    simp only [List.take_succ_cons, List.take_zero, List.drop_succ_cons, List.drop_zero]
    repeat still_step
    refine wpStill_nil ?_
    go_wp2
    have hk9 : Kept (fun q => q = O + 1 + 1) W (W.setCell ⟨O + 1 + 1, x, none⟩ (.int .u8 (u : Nat))).drew := ((Kept.refl (fun q => q = O + 1 + 1) W).setCell (fun _ => rfl) _).drew
    have h2 := HS2.out
    have hle := HOle.out
    refine ⟨⟨hk9.size, fun q hq => hk9.block q (by rcases hq with hq | hq | hq; exact hq.elim; omega; omega) (by rcases hq with hq | hq | hq; exact hq.elim; omega; omega)⟩, hk9.heap H0.out (by omega), hk9.heap H1.out (by omega), ?_, hk9.heap H3.out (by omega), HK.out.trans hk9 fun i hi e => by omega⟩
    have hh : (W.setCell ⟨O + 1 + 1, x, none⟩ (.int .u8 (u : Nat))).heap[O + 1 + 1]? = some (.cells ((rowN k v x).toArray.setIfInBounds x (.int .u8 (u : Nat))) 5 (0, 0)) := by
      simp only [World.setCell, Array.getElem?_modify, if_true, H2.out]; rfl
    show (W.setCell ⟨O + 1 + 1, x, none⟩ (.int .u8 (u : Nat))).heap[O + 1 + 1]? = _
    rw [hh, List.setIfInBounds_toArray, ← Hu.out, rowN_set k v x hx2, List.length_append, List.length_singleton, ← HX.out]
  case done =>
    rintro W ⟨h0, h1, h2, h3, hk'⟩ hD
    have a3 := h3.cell
    have H2 := Lib.hid h2
    have HK := Lib.hid hk'
    have HD := Lib.hid hD
    clear h0 h1 h2 h3 hk' hD hit hb0 hb1 hb2 hb3 hb4 hkW
    go_wp2
    refine leave_mark HD.out (v := .slice (some ⟨O + 1 + 1, 0, none⟩) k k) (show _ = Result.ok _ _ from results_tmp (t := 4) rfl _ _ _) ⟨_, rfl, ?_, ?_⟩
    · have h9 : (W.putObj W0.heap.size (.deferred none)).heap[O + 1 + 1]? = some (.cells (rowN k v k).toArray 5 (0, 0)) := by
        have := (putObj_kept W W0.heap.size (.deferred none)).heap H2.out (by omega)
        rwa [List.length_range] at this
      have hle := HOle.out
      rw [numN_len]
      refine ⟨by simp [numN], .inr ⟨O + 1 + 1, k, (rowN k v k).toArray, rfl, by omega, h9, Nat.le_refl _, by unfold maxLen; omega, ?_, ?_⟩⟩
      · simp [rowN_len]
      · simp [rowN, numN]
        exact List.take_of_length_le (by simp)
    · have hle := HOle.out
      exact HK.out.trans (putObj_kept W W0.heap.size (.deferred none)) fun i hi e => by omega
  case stop =>
    intro c pre W _ h
    exact h.elim
end Go.Proofs.YtefpigakhhfcaaaDoor
end

/-! slices.Grow of nil bytes; slices.Concat of bytes. -/
section
set_option linter.unusedVariables false
set_option linter.unusedSimpArgs false
namespace Go.Proofs.YtefpigakhhfcaaaDoor
open Go.RowKit

set_option maxRecDepth 100000 in
set_option maxHeartbeats 4000000 in
theorem grow_any (w : World) (n : Nat) (hn : n ≤ 1000000) : Calls Tryd.prog 62 #[.slice none 0 0, .int .i64 (n : Nat)] w fun e w' => ∃ v, e = .returned v ∧ Acc w w' v [] := by
  have hn9 : (n : Int) ≤ 1000000 := by omega
  rcases Nat.eq_zero_or_pos n with h0 | h0
  · subst h0
    go_enter Tryd.func62, Tryd.ntmps62
    go_wp2
    go_ret
    exact ⟨_, rfl, Acc.nil w⟩
  · obtain ⟨i0, hi, hz0, hz1, hz2⟩ := info_parts infoU8
    have hap := fun ty => Lib.run_append_nil_zeros (P := Tryd.prog) w 31 3 ty 5 i0 (.int .u8 0) .i64 .i64 Tryd.underlying31 Tryd.underlying3 hi hz0 n h0 (by rw [hz1]; omega) (by omega) (by rw [hz2]; omega)
    have hge := grownCap_ge w n 0 5
    have hmx := grownCap_le_maxLen w n 0 5 (by unfold maxLen; omega)
    have hsz : (Builtin.zeroCells (Value.int .u8 0).cells n ++ Builtin.zeroCells (Value.int .u8 0).cells (grownCap w n 0 5 - n)).size = grownCap w n 0 5 := by
      rw [Array.size_append, size_zeroCells, size_zeroCells, show (Value.int IntKind.u8 0).cells.size = 1 from rfl]; omega
    obtain ⟨cap, hcap⟩ : ∃ cap, cap = grownCap w n 0 5 := ⟨_, rfl⟩
    rw [← hcap] at hge hmx hsz hap
    obtain ⟨arr, harr⟩ : ∃ arr, arr = Builtin.zeroCells (Value.int .u8 0).cells n ++ Builtin.zeroCells (Value.int .u8 0).cells (cap - n) := ⟨_, rfl⟩
    rw [← harr] at hsz hap
    have hpos : (0 : Int) < (n : Int) := by omega
    have hc9 : (cap : Int) ≤ 9223372036854775807 := by unfold maxLen at hmx; omega
    have HA : Hid (Acc w (w.drew.alloc (.cells arr 5)) (.slice (some ⟨w.heap.size, 0, none⟩) 0 cap) []) := Lib.hid ⟨⟨by simp, .inr ⟨w.heap.size, cap, arr, rfl, Nat.le_refl _, heap_alloc_new w.drew _, by simp, hmx, by omega, by simp⟩⟩, (Kept.refl _ w).drew.alloc _⟩
    have Hap := Lib.hid hap
    clear hap hmx hge hcap harr hsz
    go_enter Tryd.func62, Tryd.ntmps62
    go_wp2_with (at_builtin; refine Lib.wpList_append_run _ rfl _ _ 31 3 rfl _ _ rfl rfl _ _ (Hap.out _) ?_)
    go_ret
    exact ⟨_, rfl, HA.out⟩
/-- Slices of bytes. -/
structure BV where
  A : Option Addr
  c : Nat
  b : List UInt8
def BBs (w : World) (A : Option Addr) (ps : List BV) : Prop := ∀ (j : Nat) p, ps[j]? = some p → ∃ ad, A = some ad ∧ w.cell? (ad.add j) = some (.slice p.A p.b.length p.c) ∧ Bs w p.A p.b ∧ (p.A = none → p.c = 0)
theorem BBs.kept {w w' : World} {A : Option Addr} {ps : List BV} (h : BBs w A ps) (hk : Kept (fun _ => False) w w') : BBs w' A ps := fun j p hp => by
  obtain ⟨ad, h1, h2, h3, h4⟩ := h j p hp
  exact ⟨ad, h1, hk.cell h2 (by simp), h3.kept hk (by simp), h4⟩
def sumB (ps : List BV) : Nat := (ps.map fun p => p.b.length).sum
theorem sumB_snoc (ps : List BV) (k : Nat) (p : BV) (h : ps[k]? = some p) : sumB (ps.take (k + 1)) = sumB (ps.take k) + p.b.length := by
  unfold sumB; rw [List.take_add_one, h]; simp
theorem sumB_le (ps : List BV) (k : Nat) : sumB (ps.take k) ≤ sumB ps := by
  have : sumB ps = sumB (ps.take k) + sumB (ps.drop k) := by
    unfold sumB
    rw [← List.sum_append, ← List.map_append, List.take_append_drop]
  omega
theorem sumB_len (ps : List BV) : (ps.flatMap BV.b).length = sumB ps := by
  unfold sumB
  induction ps with
  | nil => rfl
  | cons p ps ih => simp [List.flatMap_cons, ih]
theorem flatB_snoc (ps : List BV) (k : Nat) (p : BV) (h : ps[k]? = some p) : (ps.take (k + 1)).flatMap BV.b = (ps.take k).flatMap BV.b ++ p.b := by
  rw [List.take_add_one, h, List.flatMap_append]; simp
set_option maxRecDepth 100000 in
set_option maxHeartbeats 4000000 in
theorem concat_any (w : World) (A : Option Addr) (n c : Nat) (ps : List BV) (hn : n = ps.length) (hn9 : n ≤ 1000) (hl : sumB ps ≤ 1000000) (h : BBs w A ps) :
    Calls Tryd.prog 51 #[.slice A n c] w (ClonePost w (ps.flatMap BV.b)) := by
  have H := Lib.hid h
  have Hn := Lib.hid hn
  have Hl := Lib.hid hl
  have hn8 : (n : Int) ≤ 1000 := by omega
  obtain ⟨S, hS⟩ : ∃ S, S = sumB ps := ⟨_, rfl⟩
  have HG := Lib.hid (grow_any w S (by omega))
  have HS := Lib.hid hS
  have hS9 : (S : Int) ≤ 1000000 := by omega
  clear h hn hl hS
  go_enter Tryd.func51, Tryd.ntmps51
  go_wp2_with fail
  go_loop [3, 5, 11] (fun m _ i => ∃ k u : Nat, k ≤ n ∧ i = .int .i64 k ∧ m = .int .i64 u ∧ Hid (u = sumB (ps.take k))) (fun _ _ i => n - (intOf i).toNat)
  case atStart => exact ⟨0, 0, by omega, rfl, rfl, Lib.hid (by simp [sumB])⟩
  case round =>
    obtain ⟨k, u, hk, rfl, rfl, hu⟩ := hrel
    by_cases hlt : k < n
    · have hk9 : (k : Int) < (n : Int) := by omega
      obtain ⟨p, hp⟩ : ∃ p, ps[k]? = some p := ⟨_, List.getElem?_eq_getElem (by have := Hn.out; omega)⟩
      obtain ⟨ad, rfl, hc, -, -⟩ := H.out k p hp
      have hs := sumB_snoc ps k p hp
      have hu9 : (u : Int) + (p.b.length : Int) ≤ 1000000 := by
        have h1 := hu.out
        have h2 := sumB_le ps (k + 1)
        have h3 := Hl.out
        omega
      have Hs := Lib.hid hs
      have hneg : ¬ (u : Int) + (p.b.length : Int) < 0 := by omega
      clear hp hs
      go_wp2
      go_round
      case rel => exact ⟨k + 1, u + p.b.length, by omega, by go_num, by go_num, Lib.hid (by rw [Hs.out, hu.out])⟩
      case measure => simp [intOf]; omega
    · obtain rfl : k = n := by omega
      have hE : u = S := by rw [hu.out, HS.out, Hn.out, List.take_length]
      subst hE
      go_wp2_with (go_at_call 62; refine HG.out.mono ?_; rintro e w1 ⟨v1, rfl, ha⟩; have HA1 := Lib.hid ha; clear ha)
      go_loopw [6, 8, 27] (fun l _ i wr => ∃ j : Nat, j ≤ k ∧ i = .int .i64 j ∧ Hid (Acc w wr l ((ps.take j).flatMap BV.b))) (fun _ _ i _ => k - (intOf i).toNat)
      case atStart => exact ⟨0, by omega, rfl, HA1⟩
      case round =>
        obtain ⟨j, hj, rfl, ho⟩ := hrel
        by_cases hlt2 : j < k
        · have hj9 : (j : Int) < (k : Int) := by omega
          obtain ⟨p, hp⟩ : ∃ p, ps[j]? = some p := ⟨_, List.getElem?_eq_getElem (by have := Hn.out; omega)⟩
          obtain ⟨ad, rfl, hc, hbs, hA⟩ := H.out j p hp
          have hc := ho.out.2.cell hc (by simp)
          have Hf := Lib.hid (flatB_snoc ps j p hp)
          have Hbs := Lib.hid (hbs.kept ho.out.2 (by simp))
          have HA := Lib.hid hA
          have Hb : Hid (((ps.take j).flatMap BV.b).length + p.b.length ≤ 1000000) := Lib.hid (by
            rw [sumB_len]
            have h1 := sumB_snoc ps j p hp
            have h2 := sumB_le ps (j + 1)
            have h3 := Hl.out
            omega)
          clear hp hbs hA
          go_wp2_with (at_builtin; refine wpList_append_acc rfl _ _ rfl _ _ rfl ho.out _ _ _ p.b rfl Hbs.out rfl HA.out (by have := Hb.out; omega) ?_; intro v2 w2 ha hg; have HA2 := Lib.hid ha; clear ha hg)
          go_roundw
          case rel => exact ⟨j + 1, by omega, by go_num, Lib.hid (by rw [Hf.out]; exact HA2.out)⟩
          case measure => simp [intOf]; omega
        · obtain rfl : j = k := by omega
          have HA2 := Lib.hid ho.out
          rw [Hn.out, List.take_length] at HA2
          go_wp2
          go_ret
          exact ⟨_, rfl, HA2.out.1, HA2.out.2⟩
end Go.Proofs.YtefpigakhhfcaaaDoor
end
