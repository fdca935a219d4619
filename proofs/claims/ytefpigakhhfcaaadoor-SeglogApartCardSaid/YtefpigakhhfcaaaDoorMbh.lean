import Derived.Test.YtefpigakhhfcaaaDoorMbg
import Derived.Test.YtefpigakhhfcaaaDoorMbd
import Derived.Deep.QuietTactic
import Derived.BigQuiet
import Derived.Deep.Cut
/-! segment.Scan, walked. -/
section
set_option linter.unusedVariables false
set_option linter.unusedSimpArgs false
namespace Go.Proofs.YtefpigakhhfcaaaDoor
open Go.RowKit

def ScanPost (w : World) (first : Nat) (l : List (List UInt8)) (e : Ending) (w' : World) : Prop :=
  ∃ v rs, e = .returned (.tuple #[v, .int .i64 ((frsL first l).length : Nat)]) ∧ rs.map BV.b = l ∧ OwnRc w w' first v rs
/-- The cells of a row of structures of the call's own. -/
theorem own_cell {w : World} {base e size n : Nat} {v : Value} {xs : List Value} (h : w.ownsRow base e size v n xs) (hn : 0 < n) : ∃ G c, v = .slice (some ⟨G, 0, none⟩) n c ∧ v.ownBlock = some G ∧ n ≤ c ∧ ∀ (j : Nat) u, xs[j]? = some u → w.cell? ⟨G, j, none⟩ = some u := by
  rcases h.2 with ⟨hv, h0⟩ | ⟨g, cap, cur, hv, hb, hh, h1, h2, h3, h4⟩
  · omega
  · refine ⟨g, cap, hv, by rw [hv]; rfl, h1, fun j u hu => ?_⟩
    have := h.cells (g := g) (by rw [hv]; rfl) j u hu
    have e1 : (⟨g, 0, none⟩ : Addr).add j = ⟨g, j, none⟩ := by unfold Addr.add; split <;> simp_all
    rwa [e1] at this
theorem own_two {W : World} {e1 e2 b1 b2 s1 s2 n m : Nat} {v u : Value} {xs ys : List Value} (he : e1 ≠ e2) (h1 : W.ownsRow b1 e1 s1 v n xs) (h2 : W.ownsRow b2 e2 s2 u m ys) : ∀ k, v.ownBlock = some k → u.ownBlock = some k → False := by
  intro k e e3
  rcases h1.2 with ⟨hv, _⟩ | ⟨g, _, _, hv, _, hh, _⟩
  · rw [hv] at e; cases e
  · rcases h2.2 with ⟨hu, _⟩ | ⟨g', _, _, hu, _, hh', _⟩
    · rw [hu] at e3; cases e3
    · have hg : g = k := by rw [hv] at e; simpa [Value.ownBlock] using e
      have hg' : g' = k := by rw [hu] at e3; simpa [Value.ownBlock] using e3
      subst hg; subst hg'
      rw [hh] at hh'
      simp only [Option.some.injEq, Obj.cells.injEq] at hh'
      exact he hh'.2.1
set_option maxRecDepth 100000 in
set_option maxHeartbeats 8000000 in
theorem scan_any (w : World) (A : Option Addr) (n c first : Nat) (b t : List UInt8) (l : List (List UInt8)) (hn : n = b.length) (hc : n ≤ c) (hA : A = none → c = 0) (hb : Bs w A b) (hn9 : n ≤ 5000000)
    (hp : b = frsL first l ++ t) (ht : PartF (first + l.length) t) (hl : ∀ x ∈ l, x.length ≤ 32768) (h64 : first + l.length ≤ 9223372036854775807) :
    Calls Tryd.prog 26 #[.slice A n c, .int .u64 (first : Nat)] w (ScanPost w first l) := by
  have HPl := Lib.hid (places_any w A n c first b t l hn hc hA hb hn9 hp ht hl h64)
  have hln9 : l.length ≤ 400000 := by
    have h1 := sumR_le first l
    have h2 := congrArg List.length hp
    rw [List.length_append] at h2
    omega
  have Hln := Lib.hid hln9
  clear hn hc hA hb hn9 hp ht hl h64 hln9
  go_enter Tryd.func26, Tryd.ntmps26
  go_wp2_with (go_at_call 49; refine HPl.out.mono ?_; rintro e w1 ⟨v, rs, rfl, hR, hO⟩; obtain ⟨A1, c1, rfl⟩ := own_slice hO.row; have HR := Lib.hid hR; have HO := Lib.hid hO; clear hR hO)
  obtain ⟨ln, hln⟩ : ∃ ln, ln = rs.length := ⟨_, rfl⟩
  have hln9 : ln ≤ 400000 := by rw [hln, ← List.length_map (f := BV.b), HR.out]; exact Hln.out
  rw [← hln]
  have HLn := Lib.hid hln
  clear hln
  go_loopw [8, 19] (fun v i wr => ∃ (j : Nat), i = .int .i64 (j : Nat) ∧ j ≤ ln ∧ Hid (OwnRc w wr first v (rs.take j)) ∧ Hid (OwnPl w wr first (.slice A1 ln c1) rs)) (fun _ i _ => ln - (intOf i).toNat)
  case atStart => exact ⟨0, rfl, by omega, Lib.hid ⟨World.ownsRow_nil _ _ _ _, fun q hq => by simp at hq, HO.out.kept⟩, by rw [HLn.out]; exact HO⟩
  case round =>
    obtain ⟨j, rfl, hj, hRc, hPl⟩ := hrel
    by_cases hlt : j < ln
    · have hj9 : (j : Int) < (ln : Int) := by omega
      obtain ⟨r, hr⟩ : ∃ r, rs[j]? = some r := ⟨_, List.getElem?_eq_getElem (by have := HLn.out; omega)⟩
      have hrow := hPl.out.row
      rw [← HLn.out] at hrow
      obtain ⟨G, c1', hv, hob, -, hcell⟩ := own_cell hrow (by omega)
      simp only [Value.slice.injEq] at hv
      obtain ⟨rfl, -, rfl⟩ := hv
      obtain ⟨p0, p1, z, p2⟩ := cellsPl_at first 0 rs j r hr
      have d0 := hcell _ _ p0
      have d1 := hcell _ _ p1
      have d2 := hcell _ _ p2
      unfold BV.val at d1
      obtain ⟨y, hy⟩ : ∃ y, y = first + j := ⟨_, rfl⟩
      rw [← hy] at d0
      have Hy := Lib.hid hy
      have Hr := Lib.hid hr
      clear hrow hcell p0 p1 p2 hy hr
      go_upto_region 6 with fail
      obtain ⟨D, hD⟩ : ∃ D, D = wr.heap.size := ⟨_, rfl⟩
      obtain ⟨W2, hW2⟩ : ∃ W2, W2 = wr.alloc (.cells #[.int .u64 (y : Nat), .slice r.A r.b.length r.c, .int .i64 (z : Nat)] 105) := ⟨_, rfl⟩
      have hD2 : W2.heap[D]? = some (.cells #[.int .u64 (y : Nat), .slice r.A r.b.length r.c, .int .i64 (z : Nat)] 105 (0, 0)) := by rw [hW2, hD]; exact heap_alloc_new wr _
      have HK2 : Hid (Kept (fun _ => False) wr W2) := Lib.hid (by rw [hW2]; exact (Kept.refl _ wr).alloc _)
      have y0 : W2.cell? ⟨D, 0, none⟩ = some (.int .u64 (y : Nat)) := by simp [World.cell?, hD2]
      have y1 : W2.cell? ⟨D, 1, none⟩ = some (.slice r.A r.b.length r.c) := by simp [World.cell?, hD2]
      have HRc2 := Lib.hid (hRc.out.stay HK2.out)
      have HPl2 := Lib.hid (hPl.out.stay HK2.out)
      rw [← hD, ← hW2]
      obtain ⟨lr, hlr⟩ : ∃ lr, lr = (rs.take j).length := ⟨_, rfl⟩
      have hlrj : lr = j := by rw [hlr, List.length_take]; have := HLn.out; omega
      have Hlr := Lib.hid (And.intro hlr hlrj)
      have hlr9 : lr ≤ 400000 := by omega
      clear hD hW2 hD2 d0 d1 d2 hlr hlrj
      go_upto_region 7 with (at_builtin; refine wpList_append_e elemRc rfl _ _ rfl w.heap.size _ lr _ rfl (by rw [Hlr.out.1]; exact own_kept HRc2.out.row ((Kept.refl (fun _ => False) W2).alloc _) (by simp)) _ 1 1 [.int .u64 (y : Nat), .slice r.A r.b.length r.c] rfl (cs_new _ _ _) rfl (by simp [Value.oneCell']) (fun e => by cases e) (by omega) (Nat.le_trans HRc2.out.kept.size ((Kept.refl (fun _ => False) W2).alloc _).size) ?_; intro v7 w7 hown hgrow; have HO7 := Lib.hid hown; have HG7 := Lib.hid hgrow; clear hown hgrow)
      clear y0 y1
      go_wp2_with fail
      go_roundw
      case rel =>
        have h0 : OwnRc w (W2.alloc (.cells [.int .u64 (y : Nat), .slice r.A r.b.length r.c].toArray 73)) first u8 (rs.take j) := HRc2.out.stay ((Kept.refl (fun _ => False) W2).alloc _)
        have hP0 : OwnPl w (W2.alloc (.cells [.int .u64 (y : Nat), .slice r.A r.b.length r.c].toArray 73)) first (.slice (some ⟨G, 0, none⟩) ln c1) rs := HPl2.out.stay ((Kept.refl (fun _ => False) W2).alloc _)
        have hK7 := HG7.out.kept
        have hno : ∀ k, u8.ownBlock = some k → (Value.slice (some ⟨G, 0, none⟩) ln c1).ownBlock ≠ some k := fun k e e2 => own_two (by decide) h0.row hP0.row k e e2
        refine ⟨j + 1, by go_num, by omega, Lib.hid ?_, Lib.hid ⟨own_kept hP0.row hK7 fun k e e2 => hno k e2 e, fun q hq => own_kept (hP0.own q hq) hK7 fun k e => own_other (by decide) h0.row (hP0.own q hq) k e, hP0.kept.trans hK7 fun k hk e => by have := own_ge h0.row k e; omega⟩⟩
        have h1 := HO7.out
        rw [List.take_add_one, Hr.out]
        refine h0.grow (r := r) ?_ HG7.out (hP0.own r (List.mem_of_getElem? Hr.out))
        rw [← Hlr.out.1, Hlr.out.2, ← Hy.out]
        rw [Hlr.out.2] at h1
        exact h1
      case measure => simp [intOf]; omega
    · obtain rfl : j = ln := by omega
      have hj9 : ¬ (j : Int) < (j : Int) := by omega
      go_wp2
      go_ret2
      exact ⟨u8, rs.take j, rfl, by rw [List.take_of_length_le (by have := HLn.out; omega)]; exact HR.out, hRc.out⟩
end Go.Proofs.YtefpigakhhfcaaaDoor
end

/-! A log's last segment, its first and next offset, its bytes. -/
section
set_option linter.unusedVariables false
set_option linter.unusedSimpArgs false
namespace Go.Proofs.YtefpigakhhfcaaaDoor
open Go.RowKit

/-- What a row of segments reads as. -/
def RowM (w : World) (v : Value) (ms : List PM) : Prop := w.ownsRow 0 71 3 v ms.length (cellsM ms)
theorem RowM.form {w : World} {v : Value} {ms : List PM} (h : RowM w v ms) (hn : ms ≠ []) : ∃ G c, v = .slice (some ⟨G, 0, none⟩) ms.length c ∧ v.ownBlock = some G ∧ ms.length ≤ c ∧ c ≤ 9223372036854775807 ∧ G < w.heap.size ∧ ∀ k p, ms[k]? = some p → w.cell? ⟨G, k * 3, none⟩ = some (.int .u64 (p.first : Nat)) ∧ w.cell? ⟨G, k * 3 + 1, none⟩ = some p.rv ∧ w.cell? ⟨G, k * 3 + 2, none⟩ = some (.int .i64 (szP p.prt : Nat)) := by
  rcases h.2 with ⟨hv, h0⟩ | ⟨g, cap, cur, hv, hb, hh, h1, h2, h3, h4⟩
  · exact absurd (List.eq_nil_of_length_eq_zero h0) hn
  · refine ⟨g, cap, hv, by rw [hv]; rfl, h1, h2, (Array.getElem?_eq_some_iff.1 hh).1, fun k p hp => ?_⟩
    have key : ∀ i u, i < 3 → p.cells[i]? = some u → w.cell? ⟨g, k * 3 + i, none⟩ = some u := by
      intro i u hi hu
      have := h.cells (g := g) (by rw [hv]; rfl) (k * 3 + i) u (by rw [cellsM_at ms k p hp i hi]; exact hu)
      have e1 : (⟨g, 0, none⟩ : Addr).add (k * 3 + i) = ⟨g, k * 3 + i, none⟩ := by unfold Addr.add; split <;> simp_all <;> omega
      rwa [e1] at this
    exact ⟨key 0 _ (by omega) rfl, key 1 _ (by omega) rfl, key 2 _ (by omega) rfl⟩
theorem RowM.nil {w : World} {v : Value} (h : RowM w v []) : ∃ A c, v = .slice A 0 c := own_slice h
theorem RowM.kept {S : Nat → Prop} {w w' : World} {v : Value} {ms : List PM} (h : RowM w v ms) (hk : Kept S w w') (hS : ∀ k, v.ownBlock = some k → ¬ S k) : RowM w' v ms := own_kept h hk hS
set_option maxHeartbeats 1000000 in
theorem slLast_nil (w : World) (T F : Nat) (nm : ByteArray) (A : Option Addr) (c : Nat) (dead : Bool) (h : LB w T F nm (.slice A 0 c) dead) :
    Calls Tryd.prog 32 #[.pointer (some ⟨T, 0, none⟩)] w fun e w' => e = .returned (.pointer none) ∧ w' = w := by
  have c2 := h.c2
  clear h
  go_enter Tryd.func32, Tryd.ntmps32
  go_wp2
  go_ret
  exact ⟨rfl, rfl⟩
set_option maxHeartbeats 1000000 in
theorem slLast_some (w : World) (T F : Nat) (nm : ByteArray) (G n c : Nat) (dead : Bool) (h : LB w T F nm (.slice (some ⟨G, 0, none⟩) (n + 1) c) dead) (hn : n ≤ 1000000) (hc : n + 1 ≤ c) :
    Calls Tryd.prog 32 #[.pointer (some ⟨T, 0, none⟩)] w fun e w' => e = .returned (.pointer (some ⟨G, n * 3, none⟩)) ∧ ∃ m, w' = w.drewN m := by
  obtain ⟨k, hk⟩ : ∃ k, k = n + 1 := ⟨_, rfl⟩
  rw [← hk] at h
  have c2 := h.c2
  have h1 : ¬ ((k : Int) = 0) := by omega
  have h2 : IntKind.i64.wrap ((k : Int) - 1) = (n : Int) := by rw [IntKind.wrap_i64]; omega
  have h3 : (n : Int) < (k : Int) := by omega
  clear h hk
  go_enter Tryd.func32, Tryd.ntmps32
  go_upto_region 3 with fail
  go_quiet (fail)
  go_wp2
  go_ret
  exact ⟨rfl, _, rfl⟩
end Go.Proofs.YtefpigakhhfcaaaDoor
end

/-! A log's first and next offset, its bytes, its segments. -/
section
set_option linter.unusedVariables false
set_option linter.unusedSimpArgs false
namespace Go.Proofs.YtefpigakhhfcaaaDoor
open Go.RowKit

theorem LB.drewN {w : World} {T F : Nat} {nm : ByteArray} {v : Value} {dead : Bool} (h : LB w T F nm v dead) (m : Nat) : LB (w.drewN m) T F nm v dead := h.kept ((Kept.refl (fun _ => False) w).drewN m) (by simp)
set_option maxHeartbeats 1000000 in
theorem slNext_none (w : World) (T F : Nat) (nm : ByteArray) (A : Option Addr) (c : Nat) (dead : Bool) (h : LB w T F nm (.slice A 0 c) dead) :
    Calls Tryd.prog 15 #[.pointer (some ⟨T, 0, none⟩)] w fun e w' => e = .returned (.int .u64 0) ∧ w' = w := by
  have c2 := h.c2
  clear h
  go_enter Tryd.func15, Tryd.ntmps15
  go_wp2
  go_ret
  exact ⟨rfl, rfl⟩
set_option maxHeartbeats 1000000 in
theorem slNext_some (w : World) (T F : Nat) (nm : ByteArray) (G n c f r c2 : Nat) (A : Option Addr) (dead : Bool) (h : LB w T F nm (.slice (some ⟨G, 0, none⟩) (n + 1) c) dead) (hn : n ≤ 1000000) (hc : n + 1 ≤ c)
    (hf : w.cell? ⟨G, n * 3, none⟩ = some (.int .u64 (f : Nat))) (hr : w.cell? ⟨G, n * 3 + 1, none⟩ = some (.slice A r c2)) (h64 : f + r < 18446744073709551616) :
    Calls Tryd.prog 15 #[.pointer (some ⟨T, 0, none⟩)] w fun e w' => e = .returned (.int .u64 ((f + r : Nat) : Int)) ∧ ∃ m, w' = w.drewN m := by
  have HL := Lib.hid fun m => slLast_some (w.drewN m) T F nm G n c dead (h.drewN m) hn hc
  obtain ⟨k, hk⟩ : ∃ k, k = n + 1 := ⟨_, rfl⟩
  rw [← hk] at h
  have c2' := h.c2
  have h1 : ¬ ((k : Int) = 0) := by omega
  have h5 : IntKind.u64.wrap ((r : Nat) : Int) = (r : Int) := by rw [IntKind.wrap_u64]; omega
  have h6 : IntKind.u64.wrap ((f : Int) + (r : Int)) = ((f + r : Nat) : Int) := by rw [IntKind.wrap_u64]; omega
  obtain ⟨fr, hfr⟩ : ∃ fr, fr = f + r := ⟨_, rfl⟩
  rw [← hfr] at h6 ⊢
  clear h hk h64 hfr
  go_enter Tryd.func15, Tryd.ntmps15
  go_upto_region 3 with fail
  go_quiet ((go_at_call 32; exact Calls.quiet_of (HL.out _)))
  go_wp2
  go_ret
  exact ⟨rfl, _, rfl⟩
set_option maxHeartbeats 1000000 in
theorem slFirst_none (w : World) (T F : Nat) (nm : ByteArray) (A : Option Addr) (c : Nat) (dead : Bool) (h : LB w T F nm (.slice A 0 c) dead) :
    Calls Tryd.prog 19 #[.pointer (some ⟨T, 0, none⟩)] w fun e w' => e = .returned (.int .u64 0) ∧ w' = w := by
  have c2 := h.c2
  clear h
  go_enter Tryd.func19, Tryd.ntmps19
  go_wp2
  go_ret
  exact ⟨rfl, rfl⟩
set_option maxHeartbeats 1000000 in
theorem slFirst_some (w : World) (T F : Nat) (nm : ByteArray) (G k c f : Nat) (dead : Bool) (h : LB w T F nm (.slice (some ⟨G, 0, none⟩) k c) dead) (hk : 0 < k) (hf : w.cell? ⟨G, 0, none⟩ = some (.int .u64 (f : Nat))) :
    Calls Tryd.prog 19 #[.pointer (some ⟨T, 0, none⟩)] w fun e w' => e = .returned (.int .u64 (f : Nat)) ∧ w' = w := by
  have c2' := h.c2
  have h1 : ¬ ((k : Int) = 0) := by omega
  clear h
  go_enter Tryd.func19, Tryd.ntmps19
  go_wp2
  go_ret
  exact ⟨rfl, rfl⟩
end Go.Proofs.YtefpigakhhfcaaaDoor
end
