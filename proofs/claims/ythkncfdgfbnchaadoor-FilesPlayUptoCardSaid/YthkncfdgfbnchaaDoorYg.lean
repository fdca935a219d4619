import Derived.Test.YthkncfdgfbnchaaDoorV1
import Derived.Deep.QuietTactic
import Derived.BigQuiet
import Derived.WalkSpells
import Derived.WalkLawsBesides
import Derived.Maps.AppendAt
import Derived.Test.YthkncfdgfbnchaaDoorH2
import Derived.Test.YthkncfdgfbnchaaDoorYd
import Derived.OwnWalkIn
/-! couranthelp: Own, Kept, Same, Plain of bytes (lines of wip/finger, turned). -/
section
set_option linter.unusedVariables false
set_option linter.unusedSimpArgs false
namespace Go.Proofs.YthkncfdgfbnchaaDoor
open Go.RowKit

/-- A block of bytes of the call's own: its first cells are known. -/
def Row (w : World) (B n : Nat) (fs : List Value) : Prop :=
  ∃ cur : Array Value, w.heap[B]? = some (.cells cur 5 (0, 0)) ∧ cur.size = n ∧ ∀ (j : Nat) (u : Value), fs[j]? = some u → cur[j]? = some u
theorem Row.cell {w : World} {B n : Nat} {fs : List Value} (h : Row w B n fs) (j : Nat) (hj : j < n) : ∃ v, w.cell? ⟨B, j, none⟩ = some v := by
  obtain ⟨cur, h1, h2, h3⟩ := h
  exact ⟨cur[j]'(by omega), by simp [World.cell?, h1]⟩
theorem Row.at {w : World} {B n : Nat} {fs : List Value} (h : Row w B n fs) (j : Nat) (u : Value) (hj : fs[j]? = some u) : w.cell? ⟨B, j, none⟩ = some u := by
  obtain ⟨cur, h1, h2, h3⟩ := h
  have := h3 j u hj
  simp [World.cell?, h1, this]
theorem Row.frozen {w : World} {B n : Nat} {fs : List Value} (h : Row w B n fs) (j : Nat) : w.frozen? ⟨B, j, none⟩ = false := by
  obtain ⟨cur, h1, h2, h3⟩ := h
  simp [World.frozen?, h1]
theorem Row.push {w : World} {B n : Nat} {fs : List Value} (h : Row w B n fs) (v : Value) (j : Nat) (hj : j = fs.length) (hn : j < n) : Row (w.setCell ⟨B, j, none⟩ v) B n (fs ++ [v]) := by
  obtain ⟨cur, h1, h2, h3⟩ := h
  refine ⟨cur.setIfInBounds j v, ?_, by simp [h2], ?_⟩
  · simp only [World.setCell, Array.getElem?_modify, if_true, h1]; rfl
  · intro i u hi
    rw [List.getElem?_append] at hi
    split at hi
    · rw [Array.getElem?_setIfInBounds_ne (by omega)]; exact h3 i u hi
    · rename_i hlt
      have h0 : i - fs.length = 0 := by
        have := (List.getElem?_eq_some_iff.1 hi).1
        simp at this; omega
      rw [h0] at hi; simp at hi; subst hi
      obtain rfl : i = j := by omega
      rw [Array.getElem?_setIfInBounds_self_of_lt (by omega)]
theorem Row.of_own {w : World} {base n g cap : Nat} {xs : List Value} (h : w.ownsRow base 5 1 (.slice (some ⟨g, 0, none⟩) n cap) n xs) (hn : 0 < cap) : Row w g cap xs := by
  rcases h with ⟨h0, ⟨h1, _⟩ | ⟨g', cap', cur, h1, h2, h3, h4, h5, h6, h7⟩⟩
  · cases h1
  · cases h1
    refine ⟨cur, h3, by simpa using h6, fun j u hu => ?_⟩
    rw [← h7] at hu
    have hj := (List.getElem?_eq_some_iff.1 hu).1
    simp at hj
    rw [List.getElem?_take_of_lt (by omega)] at hu
    simpa using hu
theorem Row.below {w w1 : World} {B n : Nat} {fs : List Value} (h : Row w B n fs) (hb : Below w.heap.size w w1) : Row w1 B n fs := by
  obtain ⟨cur, h1, h2, h3⟩ := h
  exact ⟨cur, by rw [hb.block B (Array.getElem?_eq_some_iff.1 h1).1]; exact h1, h2, h3⟩

set_option maxRecDepth 100000 in
set_option maxHeartbeats 2000000 in
theorem own_any (w : World) (A : Option Addr) (cap : Nat) (xs : List UInt8) (fill : UInt8) (hn : xs.length ≤ 20000) (hb : Bs w A xs) (hA : A = none → cap = 0) :
    Calls Tryd.prog 60 #[.slice A xs.length cap, bv fill] w fun e w' => e = .returned (.slice (some ⟨w.heap.size, 0, none⟩) xs.length (xs.length + 3)) ∧ Row w' w.heap.size (xs.length + 3) (xs.map bv ++ List.replicate 3 (bv fill)) ∧ Below w.heap.size w w' := by
  obtain ⟨n, hnn⟩ : ∃ n, n = xs.length := ⟨_, rfl⟩
  rw [← hnn] at hn ⊢
  have Hn := Lib.hid hnn
  clear hnn
  obtain ⟨i0, hi, hz0, hz1, hz2⟩ := info_parts infoU8
  have hnone : A = none → n = 0 ∧ cap = 0 := fun h => ⟨by have := Hn.out; subst h; rw [this, hb.1 rfl]; rfl, hA h⟩
  have Hno := Lib.hid hnone
  clear hnone hA
  obtain ⟨fv, hfv⟩ : ∃ fv, fv = bv fill := ⟨_, rfl⟩
  rw [← hfv]
  have h1c : fv.oneCell' = true := by subst hfv; rfl
  have Hf := Lib.hid hfv
  obtain ⟨fn, hfn⟩ : ∃ fn : Int, fv = .int .u8 fn := ⟨_, hfv⟩
  clear hfv
  subst hfn
  go_enter Tryd.func60, Tryd.ntmps60
  go_wp2_with (first | (at_make; refine wpList_make_own _ rfl _ _ 29 rfl (w.heap.size) 5 i0 (.int .u8 0) 1 Tryd.underlying29 hi hz0 hz1 .i64 .i64 ((n:Int)+3) (n+3) rfl rfl (by omega) ?b1 ?b2 ?b3 ?_; rotate_right; intro w1 hown hgrow) | (at_builtin; refine wpList_append_fits_any _ rfl _ _ 29 rfl (w.heap.size) 5 i0 1 Tryd.underlying29 hi hz1 w.heap.size 0 (n+3) [] rfl hown A n cap (xs.map bv) rfl ?c1 Hno.out ?c2 ?c3 ?c4 ?_; rotate_right; intro w2 hown2 hgrow2))
  case b1 => rw [hz2]; omega
  case b2 => unfold maxLen; omega
  case b3 => omega
  case c1 => simp [Hn.out]
  case c2 => exact (hb.kept (Kept.of_below ((Below.refl _ _).grown hgrow (Nat.le_refl _) (fun k e => by cases e)) (fun _ => False) (fun k h1 h2 => by omega)) (by simp)).2
  case c3 => simp [bv, Value.oneCell']
  case c4 => omega
  have hr2 := Row.of_own hown2 (by omega)
  have hB2 : Below w.heap.size w w2 := ((Below.refl _ _).grown hgrow (Nat.le_refl _) (fun k e => by cases e)).grown hgrow2 hgrow.size (fun k e => by cases e; exact Nat.le_refl _)
  clear hown hown2 hgrow hgrow2
  simp only [List.nil_append] at hr2
  go_loopw [7] (fun i wr => ∃ k : Nat, k ≤ 3 ∧ i = .int .i64 (n + k) ∧ Row wr w.heap.size (n + 3) (xs.map bv ++ List.replicate k (.int .u8 fn)) ∧ Below w.heap.size w wr) (fun i _ => n + 3 - (intOf i).toNat)
  case atStart => exact ⟨0, by omega, by simp, by simpa using hr2, hB2⟩
  case round =>
    obtain ⟨k, hk, rfl, hr, hB⟩ := hrel
    by_cases hlt : k < 3
    · obtain ⟨v, hv⟩ := hr.cell (n + k) (by omega)
      have hfz := hr.frozen (n + k)
      have HR := Lib.hid hr
      have HBB := Lib.hid hB
      clear hr hB hr2 hB2
      go_wp2
      go_roundw
      case rel => exact ⟨k + 1, by omega, by go_num, by have := HR.out.push (.int .u8 fn) (n + k) (by simp [Hn.out]) (by omega); simpa [List.replicate_succ'] using this, HBB.out.setCell (Nat.le_refl _) _⟩
      case measure => simp [intOf]; omega
    · obtain rfl : k = 3 := by omega
      go_wp2
      go_ret
      exact ⟨rfl, hr, hB⟩
set_option maxRecDepth 100000 in
set_option maxHeartbeats 2000000 in
theorem eqb_any (w : World) (x y : UInt8) : Calls Tryd.prog 110 #[bv x, bv y] w fun e w' => e = .returned (.bool (x == y)) ∧ w' = w := by
  have h : (((x.toNat : Nat) : Int) == ((y.toNat : Nat) : Int)) = (x == y) := by
    rw [Bool.eq_iff_iff, beq_iff_eq, beq_iff_eq]
    exact ⟨fun h => UInt8.toNat_inj.1 (by omega), fun h => by rw [h]⟩
  have H := Lib.hid h
  clear h
  unfold bv
  go_enter Tryd.func110, Tryd.ntmps110
  go_wp2
  go_ret
  exact ⟨ret_bool H.out, rfl⟩

set_option maxRecDepth 100000 in
set_option maxHeartbeats 2000000 in
theorem eqb_true (z : Int) (w : World) : Calls Tryd.prog 110 #[.int .u8 z, .int .u8 z] w fun e w' => e = .returned (.bool true) ∧ w' = w := by
  go_enter Tryd.func110, Tryd.ntmps110
  go_wp2
  go_ret
  exact ⟨ret_bool (by simp), rfl⟩

set_option maxRecDepth 100000 in
set_option maxHeartbeats 2000000 in
theorem same_some (w : World) (a1 a2 : Addr) (c c' n : Nat) (xs : List UInt8) (hn : n ≤ 20000) (hnn : Hid (n = xs.length)) (hc : Hid (∀ j (h : j < xs.length), w.cell? (a1.add j) = some (bv xs[j]))) (hc' : Hid (∀ j (h : j < xs.length), w.cell? (a2.add j) = some (bv xs[j]))) :
    Calls Tryd.prog 109 #[.slice (some a1) n c, .slice (some a2) n c', .func (.func 110) #[] #[]] w fun e w' => e = .returned (.bool true) ∧ ∃ m, w' = w.drewN m := by
  go_enter Tryd.func109, Tryd.ntmps109
  go_wp2_with fail
  go_loopw [7] (fun i wr => ∃ k : Nat, k ≤ n ∧ i = .int .i64 k ∧ Hid (∃ m, wr = w.drewN m)) (fun i _ => n - (intOf i).toNat)
  case atStart => exact ⟨0, by omega, rfl, Lib.hid ⟨0, rfl⟩⟩
  case round =>
    obtain ⟨k, hk, rfl, hw⟩ := hrel
    obtain ⟨m, rfl⟩ := hw.out
    clear hw
    by_cases hlt : k < n
    · have hl : k < xs.length := by have := hnn.out; omega
      have h1 : (w.drewN m).cell? (a1.add k) = _ := (hc.out k hl)
      have h2 : (w.drewN m).cell? (a2.add k) = _ := (hc'.out k hl)
      have hz := eqb_any (w.drewN m) xs[k] xs[k]
      rw [show (xs[k] == xs[k]) = true from by simp] at hz
      have hk9 : (k : Int) < (n : Int) := by omega
      generalize hxv : bv xs[k] = xv at *
      have h1c : ∃ z : Int, xv = .int .u8 z := ⟨_, hxv.symm⟩
      clear hxv
      obtain ⟨z, rfl⟩ := h1c
      have Hz := Lib.hid hz
      clear hz
      generalize hW : w.drewN m = W at *
      have HW := Lib.hid hW
      clear hW
      go_wp2_with fail
      go_quiet ((exact Calls.quiet_of_same (eqb_true _ _)))
      go_wp2
      go_roundw
      case rel => exact ⟨k + 1, by omega, by go_num, Lib.hid ⟨m + nq, by rw [← HW.out, World.drewN_drewN]⟩⟩
      case measure => simp [intOf]; omega
    · obtain rfl : k = n := by omega
      go_wp2
      go_ret
      exact ⟨rfl, m, rfl⟩

set_option maxRecDepth 100000 in
set_option maxHeartbeats 2000000 in
theorem same_none (w : World) (A A' : Option Addr) (c c' : Nat) :
    Calls Tryd.prog 109 #[.slice A 0 c, .slice A' 0 c', .func (.func 110) #[] #[]] w fun e w' => e = .returned (.bool true) ∧ ∃ m, w' = w.drewN m := by
  go_enter Tryd.func109, Tryd.ntmps109
  go_wp2_with fail
  go_loop [7] (fun i => i = .int .i64 0) (fun _ => 0)
  case atStart => rfl
  case round =>
    obtain rfl := hrel
    go_wp2
    go_ret
    exact ⟨rfl, 0, rfl⟩

theorem same_any (w : World) (A A' : Option Addr) (c c' : Nat) (xs : List UInt8) (hn : xs.length ≤ 20000) (h : Bs w A xs) (h' : Bs w A' xs) :
    Calls Tryd.prog 109 #[.slice A xs.length c, .slice A' xs.length c', .func (.func 110) #[] #[]] w fun e w' => e = .returned (.bool true) ∧ ∃ m, w' = w.drewN m := by
  by_cases he : xs = []
  · subst he; exact same_none w A A' c c'
  · cases A with
    | none => exact absurd (h.1 rfl) he
    | some a1 =>
      cases A' with
      | none => exact absurd (h'.1 rfl) he
      | some a2 => exact same_some w a1 a2 c c' xs.length xs hn (Lib.hid rfl) (Lib.hid fun j hj => h.2 a1 rfl j _ (by simp [hj])) (Lib.hid fun j hj => h'.2 a2 rfl j _ (by simp [hj]))

set_option maxRecDepth 100000 in
set_option maxHeartbeats 2000000 in
theorem plain_any (w : World) (A A' : Option Addr) (c c' : Nat) (xs : List UInt8) (hn : xs.length ≤ 20000) (h : Bs w A xs) (h' : Bs w A' xs) :
    Calls Tryd.prog 88 #[.slice A xs.length c, .slice A' xs.length c'] w fun e w' => e = .returned (.bool true) ∧ ∃ m, w' = w.drewN m := by
  have H := Lib.hid h
  have H' := Lib.hid h'
  clear h h'
  go_enter Tryd.func88, Tryd.ntmps88
  go_wp2_with (go_at_call 109; refine (same_any w A A' c c' xs hn H.out H'.out).mono ?_; rintro e w' ⟨rfl, m, rfl⟩)
  go_ret
  exact ⟨rfl, m, rfl⟩

set_option maxRecDepth 100000 in
set_option maxHeartbeats 2000000 in
theorem kept_any (w : World) (B : Nat) (A : Option Addr) (c n : Nat) (xs : List UInt8) (fill : UInt8) (hn : n ≤ 20000) (hnn : n = xs.length) (hR : Row w B (n + 3) (xs.map bv ++ List.replicate 3 (bv fill))) (h : Bs w A xs) :
    Calls Tryd.prog 61 #[.slice (some ⟨B, 0, none⟩) n (n + 3), .slice A n c, bv fill] w fun e w' => e = .returned (.bool true) ∧ ∃ m, w' = w.drewN m := by
  have HR := Lib.hid hR
  have HN := Lib.hid hnn
  have hRB : Bs w (some ⟨B, 0, none⟩) xs := ⟨fun e => by simp at e, fun ad e j u hu => by
    injection e with e
    subst e
    have hj := (List.getElem?_eq_some_iff.1 hu).1
    have := hR.at j u (by rw [List.getElem?_append_left hj]; exact hu)
    have e1 : (⟨B, 0, none⟩ : Addr).add j = ⟨B, j, none⟩ := by unfold Addr.add; split <;> simp_all
    rwa [e1]⟩
  have HP := Lib.hid (plain_any w (some ⟨B, 0, none⟩) A (n + 3) c xs (by omega) hRB h)
  rw [← hnn] at HP
  obtain ⟨fv, hfv⟩ : ∃ fv : Int, bv fill = .int .u8 fv := ⟨_, rfl⟩
  rw [hfv] at HR ⊢
  clear hfv hRB h hR hnn
  go_enter Tryd.func61, Tryd.ntmps61
  go_wp2_with (go_at_call 88; refine HP.out.mono ?_; rintro e w' ⟨rfl, m, rfl⟩)
  go_loop [8] (fun i => ∃ k : Nat, k ≤ 3 ∧ i = .int .i64 (n + k)) (fun i => n + 3 - (intOf i).toNat)
  case atStart => exact ⟨0, by omega, by simp⟩
  case round =>
    obtain ⟨k, hk, rfl⟩ := hrel
    by_cases hlt : k < 3
    · have hc := HR.out.at (n + k) (.int .u8 fv) (by rw [List.getElem?_append_right (by simp [HN.out]), List.getElem?_replicate, if_pos (by simp [HN.out]; omega)])
      go_wp2
      go_round
      case rel => exact ⟨k + 1, by omega, by go_num⟩
      case measure => simp [intOf]; omega
    · obtain rfl : k = 3 := by omega
      go_wp2
      go_ret
      exact ⟨rfl, m, rfl⟩

end Go.Proofs.YthkncfdgfbnchaaDoor
end

/-! couranthelp: Seq over the names. -/
section
set_option linter.unusedVariables false
set_option linter.unusedSimpArgs false
namespace Go.Proofs.YthkncfdgfbnchaaDoor
open Go.RowKit Go.Sort
attribute [local go_sem] Oper.semAt_some

theorem own_weak {w : World} {b b' : Nat} {e : TypeId} {size n : Nat} {v : Value} {xs : List Value} (hb : b' ≤ b) (h : w.ownsRow b e size v n xs) : w.ownsRow b' e size v n xs :=
  ⟨h.1, h.2.imp id fun ⟨g, cap, cur, a1, a2, a3⟩ => ⟨g, cap, cur, a1, Nat.le_trans hb a2, a3⟩⟩
structure SqI (w W : World) (B D : Nat) (pre : List (List UInt8)) : Prop where
  b0 : Boxed W B 3 (.int .i64 200)
  b1 : Boxed W (B + 1) 53 (.slice none 0 0)
  b2 : Boxed W (B + 2) 4 (.bool false)
  b3 : ∃ v, Boxed W (B + 3) 53 v ∧ W.ownsRow (D + 2) 9 1 v pre.length (pre.map encStr)
  kept : Kept (fun _ => False) w W
theorem SqI.carry {w W W' : World} {B D : Nat} {pre : List (List UInt8)} (h : SqI w W B D pre) (hk : Kept (fun k => False ∨ k = D ∨ k = D + 1) W W') (hB : B = w.heap.size) (hD : B + 4 ≤ D) : SqI w W' B D pre := by
  have no : ∀ k, k < D → ¬ (False ∨ k = D ∨ k = D + 1) := by rintro k hk (h | h | h) <;> first | exact h.elim | omega
  obtain ⟨v, hv, ho⟩ := h.b3
  refine ⟨hk.heap h.b0 (no _ (by omega)), hk.heap h.b1 (no _ (by omega)), hk.heap h.b2 (no _ (by omega)), ⟨v, hk.heap hv (no _ (by omega)), own_kept ho hk fun k e => ?_⟩, h.kept.trans hk fun i hi hm => absurd hm (no i (by omega))⟩
  have := own_ge ho k e
  rintro (h | h | h) <;> first | exact h.elim | omega
set_option maxRecDepth 100000 in
set_option maxHeartbeats 4000000 in
theorem seq_any (w : World) (B0 n0 c0 : Nat) (A0 : Option Addr) (ns : List (List UInt8)) (hb0 : Boxed w B0 53 (.slice A0 n0 c0)) (hn0 : n0 = ns.length) (hl : ns.length ≤ 200) (hs : Ss w A0 ns) (hA : ∀ ad, A0 = some ad → ad.block < w.heap.size) :
    Calls Tryd.prog 27 #[.func (.func 89) #[] #[.pointer (some ⟨B0, 0, none⟩)], .int .i64 200] w fun e w' => ∃ v, e = .returned (.tuple #[v, .bool true]) ∧ w'.ownsRow w.heap.size 9 1 v ns.length (ns.map encStr) ∧ Kept (fun _ => False) w w' := by
  refine calls_of_marks Tryd.func27 rfl ?_
  simp only [Tryd.ntmps27, List.size_toArray, List.length_cons, List.length_nil, Nat.reduceAdd, Nat.reduceSub, Array.replicate_succ, Array.replicate_zero, List.push_toArray, List.append_toArray, List.nil_append, List.cons_append]
  obtain ⟨i0, hi, hz0, hz1, hz2⟩ := info_parts infoStr
  have hlt0 := (Array.getElem?_eq_some_iff.1 hb0).1
  have Hlt := Lib.hid hlt0
  have Hb0 := Lib.hid hb0
  have HS := Lib.hid hs
  have HA := Lib.hid hA
  have Hn0 := Lib.hid hn0
  have Hl := Lib.hid hl
  clear hlt0 hb0 hs hA hn0 hl
  have hne : ∀ W, (binOp .eql 57 (.func (.func 89) #[] #[.pointer (some ⟨B0, 0, none⟩)]) .nilFunc).run Tryd.prog W = .ok (.bool false) W := fun W => by kernel_rfl
  go_wp2_with fail
  obtain ⟨W0, hW0⟩ : ∃ W0, W0 = (((w.alloc (.cells #[.int .i64 200] 3)).alloc (.cells #[.slice none 0 0] 53)).alloc (.cells #[.bool false] 4)).alloc (.cells #[.slice none 0 0] 53) := ⟨_, rfl⟩
  rw [← hW0]
  obtain ⟨B, hB⟩ : ∃ B, B = w.heap.size := ⟨_, rfl⟩
  have hsz : W0.heap.size = B + 4 := by rw [hW0, hB]; simp
  have hkp : Kept (fun _ => False) w W0 := by rw [hW0]; exact ((((Kept.refl _ w).alloc _).alloc _).alloc _).alloc _
  have h0 : Boxed W0 B 3 (.int .i64 200) := by
    have := (((Boxed.new w 3 (.int .i64 200)).alloc (.cells #[.slice none 0 0] 53)).alloc (.cells #[.bool false] 4)).alloc (.cells #[.slice none 0 0] 53)
    rw [hW0, hB]; simpa using this
  have h1 : Boxed W0 (B + 1) 53 (.slice none 0 0) := by
    have := ((Boxed.new (w.alloc (.cells #[.int .i64 200] 3)) 53 (.slice none 0 0)).alloc (.cells #[.bool false] 4)).alloc (.cells #[.slice none 0 0] 53)
    rw [hW0, hB]; simpa using this
  have h2 : Boxed W0 (B + 2) 4 (.bool false) := by
    have := (Boxed.new ((w.alloc (.cells #[.int .i64 200] 3)).alloc (.cells #[.slice none 0 0] 53)) 4 (.bool false)).alloc (.cells #[.slice none 0 0] 53)
    rw [hW0, hB]; simpa using this
  have h3 : Boxed W0 (B + 3) 53 (.slice none 0 0) := by
    have := Boxed.new (((w.alloc (.cells #[.int .i64 200] 3)).alloc (.cells #[.slice none 0 0] 53)).alloc (.cells #[.bool false] 4)) 53 (.slice none 0 0)
    rw [hW0, hB]; simpa using this
  clear hW0
  rw [← hB]
  have HBw := Lib.hid hB
  clear hB
  have hit := values_iter B0 n0 c0 A0 ns W0 (hkp.heap Hb0.out (by simp)) Hn0.out (by have := Hn0.out; have := Hl.out; omega) (HS.out.same fun k ⟨ad, e, e2⟩ => hkp.block k (by rw [← e2]; exact HA.out ad e) (by simp)) (fun ad e => by have := HA.out ad e; have := hkp.size; omega)
  have Hsz := Lib.hid hsz
  have hi0 : SqI w W0 B W0.heap.size [] := ⟨h0, h1, h2, ⟨_, h3, World.ownsRow_nil _ _ _ _⟩, hkp⟩
  clear h0 h1 h2 h3 hkp hsz
  refine wp_range (gf := 89) rfl (enters_of Tryd.func89 (by kernel_rfl) rfl) hit (fun x => rfl) (fun k h => h.elim) (fun k ⟨ad, e, e2⟩ => by rw [← e2]; have := HA.out ad e; have := hi0.kept.size; omega)
    (fun pre W => SqI w W B W0.heap.size pre)
    (fun c pre W => False)
    (fun pre A C h hk => h.carry hk HBw.out (by have := Hsz.out; omega))
    (fun c pre A C h hk => h.elim) hi0 (fun x => { tmps := #[.func (.func 89) #[] #[.pointer (some ⟨B0, 0, none⟩)], .int .i64 200, undef, .pointer (some ⟨B, 0, none⟩), .pointer (some ⟨B + 1, 0, none⟩), .pointer (some ⟨B + 1 + 1, 0, none⟩), .pointer (some ⟨B + 1 + 1 + 1, 0, none⟩), .string ⟨x.toArray⟩, .func (.func 89) #[] #[.pointer (some ⟨B0, 0, none⟩)], .bool false, .func (.func 89) #[] #[.pointer (some ⟨B0, 0, none⟩)], .string ⟨x.toArray⟩, undef, undef, undef, undef, undef, undef, undef, undef, undef], defers := [] }) ?assign ?body ?done ?stop
  case assign =>
    intro l x W K hK
    gi_wp2
    exact hK
  case body =>
    rintro l pre x post W hxs hI hsz2
    obtain ⟨v, hv, ho⟩ := hI.b3
    obtain ⟨k, hk⟩ : ∃ k, k = pre.length := ⟨_, rfl⟩
    rw [← hk] at ho
    have hkl : k + 1 ≤ 200 := by have := congrArg List.length hxs; simp at this; have := Hl.out; omega
    have c0 := hI.b0.cell
    have c3 := hv.cell
    have f3 := hv.frozen
    have hw0 := Hsz.out
    have HI := Lib.hid hI
    have HV := Lib.hid hv
    have HO := Lib.hid ho
    have Hk := Lib.hid hk
    have HSz2 := Lib.hid hsz2
    have hk9 : ¬ (200 : Int) < (k : Int) + 1 := by omega
    have hge : ∀ q, v.ownBlock = some q → W0.heap.size + 2 ≤ q := own_ge ho
    have HGe := Lib.hid hge
    have Hkl := Lib.hid hkl
    clear hI hv ho hk hit hi0 hsz2 hge hkl hxs hw0
    gi_wp2_with (gi_at_builtin; refine wpListIn_append_own _ rfl _ _ 53 rfl (W0.heap.size + 2) 9 i0 (.string ⟨#[]⟩) 1 16 Tryd.underlying53 hi hz0 hz1 hz2 rfl (by decide) _ k _ rfl (own_kept HO.out ((Kept.refl (fun _ => False) W).alloc _) (by simp)) _ 1 1 [.string ⟨x.toArray⟩] rfl rfl ((cs_new W [.string ⟨x.toArray⟩] 9).2 _ rfl) (by simp [Value.oneCell']) (by have := Hkl.out; unfold maxLen; omega) (by have := Hkl.out; omega) (by have := HSz2.out; simp; omega) ?_; intro v' w1 hown hgrow hnil; obtain ⟨A', c', rfl⟩ := own_slice hown; have HN := Lib.hid hown; have HK1 : Hid (Kept (fun q => v.ownBlock = some q) W w1) := Lib.hid ((((Kept.refl (fun q => v.ownBlock = some q) W).alloc _)).grown hgrow (fun q e _ => e)); have g0 := HK1.out.cell c0 (fun e => by have h9 : W0.heap.size + 2 ≤ B := HGe.out _ e; have := Hsz.out; omega); have HB3 : Hid (Boxed w1 (B + 3) 53 _) := Lib.hid (HK1.out.heap HV.out (fun e => by have := HGe.out _ e; have := Hsz.out; omega)); have g3 := Boxed.cell HB3.out; have fz3 := Boxed.frozen HB3.out; have hlt9 : B < w1.heap.size := World.block_lt_of_cell? w1 ⟨B, 0, none⟩ g0; clear hown hgrow hnil)
    refine ⟨⟨?_, ?_⟩, ?_⟩
    · have := HK1.out.size; simpa using this
    · intro q hq
      have hq3 : q ≠ B + 3 := by
        have := Hsz.out
        have hB := HBw.out
        rcases hq with ⟨ad, e, e2⟩ | hq | hq
        · have := HA.out ad e; omega
        · omega
        · omega
      have hqo : ¬ v.ownBlock = some q := fun e => by
        have h1 := HGe.out _ e
        have := Hsz.out
        have hB := HBw.out
        rcases hq with ⟨ad, e3, e2⟩ | hq | hq
        · have := HA.out ad e3; omega
        · omega
        · omega
      have hql : q < W.heap.size := by
        have := HSz2.out
        have := Hsz.out
        have hB := HBw.out
        rcases hq with ⟨ad, e, e2⟩ | hq | hq
        · have := HA.out ad e; omega
        · omega
        · omega
      refine ((kF w1 (B + 1 + 1 + 1) 0 _).block q (Nat.lt_of_lt_of_le hql HK1.out.size) (by omega)).trans (HK1.out.block q hql hqo)
    · have hk3 := kF w1 (B + 1 + 1 + 1) 0 (.slice A' (k + 1) c')
      have hkk : Kept (fun q => v.ownBlock = some q ∨ q = B + 3) W (w1.setCell ⟨B + 1 + 1 + 1, 0, none⟩ (.slice A' (k + 1) c')) := (HK1.out.mono fun q _ e => .inl e).trans' (hk3.mono fun q _ e => .inr e)
      have no : ∀ q, q < B + 3 → ¬ (v.ownBlock = some q ∨ q = B + 3) := fun q hq h => h.elim (fun e => by have := HGe.out _ e; have := Hsz.out; omega) (fun e => by omega)
      refine ⟨hkk.heap HI.out.b0 (no _ (by omega)), hkk.heap HI.out.b1 (no _ (by omega)), hkk.heap HI.out.b2 (no _ (by omega)), ⟨_, HB3.out.set _, ?_⟩, HI.out.kept.trans hkk fun q hq h => absurd h (no q (by have := HBw.out; omega))⟩
      have := HN.out
      rw [Hk.out, ← List.map_singleton (f := encStr), ← List.map_append] at this
      rw [List.length_append, List.length_singleton]
      rw [← Hk.out] at this ⊢
      refine own_kept this hk3 fun q e e2 => ?_
      have := own_ge this q e
      have := Hsz.out
      omega
  case done =>
    rintro W hI hD
    obtain ⟨v, hv, ho⟩ := hI.b3
    obtain ⟨Av, cv, rfl⟩ := own_slice ho
    have c1 := hI.b1.cell
    have c2 := hI.b2.cell
    have c3 := hv.cell
    have f1 := hI.b1.frozen
    have f2 := hI.b2.frozen
    have HD := Lib.hid hD
    have HI := Lib.hid hI
    have HO := Lib.hid ho
    clear hI hv ho hD hit hi0
    go_wp2
    have HBB := HBw.out
    have hW0 := Hsz.out
    have hge := own_ge HO.out
    refine leave_mark ((Below.heap_setCell _ _ _ _ (by simp; omega)).trans ((Below.heap_setCell _ _ _ _ (by simp; omega)).trans HD.out)) (results_cell2 rfl (fun w => by kernel_rfl) (fun w => by kernel_rfl) rfl rfl (v := .slice Av ns.length cv) (u := .bool true) ?_ ?_) ⟨_, rfl, ?_, ?_⟩
    · have hb : Boxed ((W.setCell ⟨B + 1, 0, none⟩ (.slice Av ns.length cv)).setCell ⟨B + 1 + 1, 0, none⟩ (.bool true)) (B + 1) 53 (.slice Av ns.length cv) := (kF _ (B + 1 + 1) 0 _).heap (HI.out.b1.set _) (by omega)
      exact Boxed.cell ((putObj_kept _ W0.heap.size _).heap hb (by omega))
    · have hb2 : Boxed (W.setCell ⟨B + 1, 0, none⟩ (.slice Av ns.length cv)) (B + 1 + 1) 4 (.bool false) := (kF W (B + 1) 0 _).heap HI.out.b2 (by omega)
      exact Boxed.cell ((putObj_kept _ W0.heap.size _).heap (hb2.set (.bool true)) (by omega))
    · have h1 := own_kept HO.out (kF W (B + 1) 0 (.slice Av ns.length cv)) fun q e e2 => by have := hge q e; omega
      have h2 := own_kept h1 (kF _ (B + 1 + 1) 0 (.bool true)) fun q e e2 => by have := hge q e; omega
      exact own_weak (by omega) (own_kept h2 (putObj_kept _ W0.heap.size _) fun q e e2 => by have := hge q e; omega)
    · exact ((HI.out.kept.setCell (p := ⟨B + 1, 0, none⟩) (fun h => by simp at h; omega) _).setCell (p := ⟨B + 1 + 1, 0, none⟩) (fun h => by simp at h; omega) _).putObj (fun h => by omega) _
  case stop =>
    rintro c pre W hpre h
    exact h.elim
end Go.Proofs.YthkncfdgfbnchaaDoor
end

/-! couranthelp: Spoil; Plain of strings. -/
section
set_option linter.unusedVariables false
set_option linter.unusedSimpArgs false
namespace Go.Proofs.YthkncfdgfbnchaaDoor
open Go.RowKit

/-- A block of bytes, whatever they are. -/
def Raw (w : World) (B n : Nat) : Prop := ∃ cur : Array Value, w.heap[B]? = some (.cells cur 5 (0, 0)) ∧ n ≤ cur.size ∧ ∀ j : Nat, j < n → ∃ z : Int, cur[j]? = some (.int .u8 z)
theorem Raw.cell {w : World} {B n : Nat} (h : Raw w B n) (j : Nat) (hj : j < n) : ∃ z : Int, w.cell? ⟨B, j, none⟩ = some (.int .u8 z) := by
  obtain ⟨cur, h1, h2, h3⟩ := h
  obtain ⟨z, hz⟩ := h3 j hj
  exact ⟨z, by simp [World.cell?, h1, hz]⟩
theorem Raw.frozen {w : World} {B n : Nat} (h : Raw w B n) (j : Nat) : w.frozen? ⟨B, j, none⟩ = false := by
  obtain ⟨cur, h1, h2, h3⟩ := h
  simp [World.frozen?, h1]
theorem Raw.set {w : World} {B n : Nat} (h : Raw w B n) (j : Nat) (z : Int) : Raw (w.setCell ⟨B, j, none⟩ (.int .u8 z)) B n := by
  obtain ⟨cur, h1, h2, h3⟩ := h
  refine ⟨cur.setIfInBounds j (.int .u8 z), ?_, by simpa using h2, fun i hi => ?_⟩
  · simp only [World.setCell, Array.getElem?_modify, if_true, h1]; rfl
  · by_cases hij : j = i
    · subst hij
      exact ⟨z, by rw [Array.getElem?_setIfInBounds_self_of_lt (by omega)]⟩
    · obtain ⟨y, hy⟩ := h3 i hi
      exact ⟨y, by rw [Array.getElem?_setIfInBounds_ne hij]; exact hy⟩
theorem Raw.of_own {w : World} {base n g cap : Nat} {xs : List UInt8} (h : w.ownsRow base 5 1 (.slice (some ⟨g, 0, none⟩) n cap) n (xs.map bv)) : Raw w g n := by
  rcases h.2 with ⟨h1, _⟩ | ⟨g', cap', cur, h1, h2, h3, h4, h5, h6, h7⟩
  · cases h1
  · cases h1
    refine ⟨cur, h3, by omega, fun j hj => ?_⟩
    have hl := h.1
    simp at hl
    have hu : (xs.map bv)[j]? = some (bv (xs[j]'(by omega))) := by rw [List.getElem?_map, List.getElem?_eq_getElem (by omega)]; rfl
    rw [← h7, List.getElem?_take_of_lt (by omega)] at hu
    exact ⟨_, by simpa [bv] using hu⟩
theorem Raw.of_row {w : World} {B n m : Nat} {fs : List UInt8} {ys : List Value} (h : Row w B n (fs.map bv ++ ys)) (hm : m = fs.length) (hn : m ≤ n) : Raw w B m := by
  obtain ⟨cur, h1, h2, h3⟩ := h
  refine ⟨cur, h1, by omega, fun j hj => ?_⟩
  exact ⟨_, h3 j (bv (fs[j]'(by omega))) (by rw [List.getElem?_append_left (by simp; omega), List.getElem?_map, List.getElem?_eq_getElem (by omega)]; rfl)⟩
set_option maxRecDepth 100000 in
set_option maxHeartbeats 2000000 in
theorem spoil_some (w : World) (B n c : Nat) (hn : n ≤ 1000000000) (h : Raw w B n) :
    Calls Tryd.prog 56 #[.slice (some ⟨B, 0, none⟩) n c] w fun e w' => e = .returned (.tuple #[]) ∧ Kept (fun k => k = B) w w' := by
  have H := Lib.hid h
  clear h
  have hn9 : (n : Int) ≤ 1000000000 := by omega
  go_enter Tryd.func56, Tryd.ntmps56
  go_wp2_with fail
  go_loopw [2] (fun i wr => ∃ k : Nat, k ≤ n ∧ i = .int .i64 k ∧ Hid (Raw wr B n) ∧ Hid (Kept (fun k => k = B) w wr)) (fun i _ => n - (intOf i).toNat)
  case atStart => exact ⟨0, by omega, rfl, H, Lib.hid (Kept.refl _ _)⟩
  case round =>
    obtain ⟨k, hk, rfl, hR, hK⟩ := hrel
    by_cases hlt : k < n
    · have hk9 : (k : Int) < (n : Int) := by omega
      obtain ⟨z, hc⟩ := hR.out.cell k hlt
      have hf := hR.out.frozen k
      go_wp2
      go_roundw
      case rel => exact ⟨k + 1, by omega, by go_num, Lib.hid (hR.out.set k _), Lib.hid (hK.out.trans' (kF wr B k _))⟩
      case measure => simp [intOf]; omega
    · obtain rfl : k = n := by omega
      go_wp2
      go_end0
      exact ⟨rfl, hK.out⟩
set_option maxHeartbeats 2000000 in
theorem spoil_none (w : World) (A : Option Addr) (c : Nat) :
    Calls Tryd.prog 56 #[.slice A 0 c] w fun e w' => e = .returned (.tuple #[]) ∧ w' = w := by
  go_enter Tryd.func56, Tryd.ntmps56
  go_wp2_with fail
  go_loop [2] (fun i => i = .int .i64 0) (fun _ => 0)
  case atStart => rfl
  case round =>
    obtain rfl := hrel
    go_wp2
    go_end0
    exact ⟨rfl, rfl⟩
/-- Spoil of bytes of the call's own. -/
theorem spoil_own (w : World) (base n : Nat) (v : Value) (xs : List UInt8) (hn : n ≤ 1000000000) (h : w.ownsRow base 5 1 v n (xs.map bv)) :
    Calls Tryd.prog 56 #[v] w fun e w' => e = .returned (.tuple #[]) ∧ Kept (fun k => v.ownBlock = some k) w w' := by
  rcases h.2 with ⟨rfl, rfl⟩ | ⟨g, cap, cur, rfl, _⟩
  · exact (spoil_none w none 0).mono fun e w' ⟨he, hw⟩ => ⟨he, by rw [hw]; exact Kept.refl _ _⟩
  · refine (spoil_some w g n cap hn (Raw.of_own h)).mono fun e w' ⟨he, hw⟩ => ⟨he, hw.mono fun k _ e => by rw [e]; rfl⟩

/-! ### Plain of strings -/
set_option maxHeartbeats 1000000 in
theorem eqs_true (s : ByteArray) (w : World) : Calls Tryd.prog 66 #[.string s, .string s] w fun e w' => e = .returned (.bool true) ∧ w' = w := by
  go_enter Tryd.func66, Tryd.ntmps66
  go_wp2
  go_ret
  exact ⟨ret_bool (by simp), rfl⟩
set_option maxRecDepth 100000 in
set_option maxHeartbeats 2000000 in
theorem sames_some (w : World) (a1 a2 : Addr) (c c' n : Nat) (xs : List ByteArray) (hn : n ≤ 20000) (hnn : Hid (n = xs.length)) (hc : Hid (∀ j (h : j < xs.length), w.cell? (a1.add j) = some (.string xs[j]))) (hc' : Hid (∀ j (h : j < xs.length), w.cell? (a2.add j) = some (.string xs[j]))) :
    Calls Tryd.prog 65 #[.slice (some a1) n c, .slice (some a2) n c', .func (.func 66) #[] #[]] w fun e w' => e = .returned (.bool true) ∧ ∃ m, w' = w.drewN m := by
  go_enter Tryd.func65, Tryd.ntmps65
  go_wp2_with fail
  go_loopw [7] (fun i wr => ∃ k : Nat, k ≤ n ∧ i = .int .i64 k ∧ Hid (∃ m, wr = w.drewN m)) (fun i _ => n - (intOf i).toNat)
  case atStart => exact ⟨0, by omega, rfl, Lib.hid ⟨0, rfl⟩⟩
  case round =>
    obtain ⟨k, hk, rfl, hw⟩ := hrel
    obtain ⟨m, rfl⟩ := hw.out
    clear hw
    by_cases hlt : k < n
    · have hl : k < xs.length := by have := hnn.out; omega
      have h1 : (w.drewN m).cell? (a1.add k) = _ := (hc.out k hl)
      have h2 : (w.drewN m).cell? (a2.add k) = _ := (hc'.out k hl)
      have hk9 : (k : Int) < (n : Int) := by omega
      generalize xs[k] = xv at *
      generalize hW : w.drewN m = W at *
      have HW := Lib.hid hW
      clear hW
      go_wp2_with fail
      go_quiet ((exact Calls.quiet_of_same (eqs_true _ _)))
      go_wp2
      go_roundw
      case rel => exact ⟨k + 1, by omega, by go_num, Lib.hid ⟨m + nq, by rw [← HW.out, World.drewN_drewN]⟩⟩
      case measure => simp [intOf]; omega
    · obtain rfl : k = n := by omega
      go_wp2
      go_ret
      exact ⟨rfl, m, rfl⟩
set_option maxHeartbeats 1000000 in
theorem sames_none (w : World) (A A' : Option Addr) (c c' : Nat) :
    Calls Tryd.prog 65 #[.slice A 0 c, .slice A' 0 c', .func (.func 66) #[] #[]] w fun e w' => e = .returned (.bool true) ∧ ∃ m, w' = w.drewN m := by
  go_enter Tryd.func65, Tryd.ntmps65
  go_wp2_with fail
  go_loop [7] (fun i => i = .int .i64 0) (fun _ => 0)
  case atStart => rfl
  case round =>
    obtain rfl := hrel
    go_wp2
    go_ret
    exact ⟨rfl, 0, rfl⟩
theorem own_strs {w : World} {base : Nat} {v : Value} {n : Nat} {xs : List ByteArray} (h : w.ownsRow base 9 1 v n (xs.map Value.string)) (hn : 0 < n) : ∃ a c, v = .slice (some a) n c ∧ ∀ j (h : j < xs.length), w.cell? (a.add j) = some (.string xs[j]) := by
  rcases h.2 with ⟨_, h0⟩ | ⟨g, cap, cur, hv, _⟩
  · omega
  · exact ⟨_, cap, hv, fun j hj => h.cells (g := g) (by rw [hv]; rfl) j _ (by simp [hj])⟩
set_option maxHeartbeats 1000000 in
theorem plains_any (w : World) (b1 b2 n : Nat) (v1 v2 : Value) (xs : List ByteArray) (hn : n ≤ 20000) (h1 : w.ownsRow b1 9 1 v1 n (xs.map Value.string)) (h2 : w.ownsRow b2 9 1 v2 n (xs.map Value.string)) :
    Calls Tryd.prog 29 #[v1, v2] w fun e w' => e = .returned (.bool true) ∧ ∃ m, w' = w.drewN m := by
  have HS : Hid (Calls Tryd.prog 65 #[v1, v2, .func (.func 66) #[] #[]] w fun e w' => e = .returned (.bool true) ∧ ∃ m, w' = w.drewN m) := Lib.hid (by
    rcases Nat.eq_zero_or_pos n with h0 | h0
    · subst h0
      obtain ⟨A, c, rfl⟩ := own_slice h1
      obtain ⟨A', c', rfl⟩ := own_slice h2
      exact sames_none w A A' c c'
    · obtain ⟨a1, c, rfl, k1⟩ := own_strs h1 h0
      obtain ⟨a2, c', rfl, k2⟩ := own_strs h2 h0
      exact sames_some w a1 a2 c c' n xs hn (Lib.hid (by have := h1.1; simp at this; omega)) (Lib.hid k1) (Lib.hid k2))
  clear h1 h2
  go_enter Tryd.func29, Tryd.ntmps29
  go_wp2_with (go_at_call 65; refine HS.out.mono ?_; rintro e w' ⟨rfl, m, rfl⟩)
  go_ret
  exact ⟨rfl, m, rfl⟩
end Go.Proofs.YthkncfdgfbnchaaDoor
end
