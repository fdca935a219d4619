import Derived.Test.YtnonjgopdopnfaaF
set_option linter.unusedVariables false
set_option linter.unusedSimpArgs false
namespace Go.Proofs.Ytnonjgopdopnfaa
open Go.RowKit Go.Shelf
theorem eq27 (x y : Operand) (w : World) : (do eqGuard .eql 27 x y (.agg (tabV tab)) (.agg (tabV tab)); binOp .eql 27 (.agg (tabV tab)) (.agg (tabV tab)) : Sem Value).run Try.prog w = .ok (.bool true) w := by kernel_rfl
theorem wpL_eq27 {w : World} {ops : Array Oper} {rest : List Oper} {o : Oper} {a : Act} {Q : Exit → Act → World → Prop}
    (hw : Region.wanted o (yielded ops a.tmps) = true) (x y : Operand) (hop : o.op = Op.binOp .eql 27 x y 27) (hx : a.eval x = .agg (tabV tab)) (hy : a.eval y = .agg (tabV tab))
    (hK : wpList Try.prog ops Q rest (a.put o.dst (.bool true)) w) : wpList Try.prog ops Q (o :: rest) a w := by
  refine wpList_step fun K hK' => ?_
  rw [if_pos hw]
  have hr : (execOp a.eval o).run Try.prog w = .ok (.value (.bool true)) w := by
    unfold execOp
    rw [hop]
    show Sem.run Try.prog (Sem.bind (do eqGuard .eql 27 x y (a.eval x) (a.eval y); binOp .eql 27 (a.eval x) (a.eval y)) fun v => Sem.pure (Next.value v)) w = _
    rw [Sem.run_bind', hx, hy, eq27]; rfl
  unfold Oper.wp
  rw [hr]
  exact hK' _ _ hK

set_option maxHeartbeats 1000000 in
theorem law_long (w : World) (A : Option Addr) (n c : Nat) (hn : 20000 < n) :
    Calls Try.prog 3 #[.slice A n c] w fun e w' => e = .returned (.bool true) ∧ Below w.heap.size w w' := by
  have hn9 : (20000 : Int) < (n : Int) := by omega
  go_enter Try.func3, Try.ntmps3
  go_wp2_with (go_at_call 5; refine (awake_any _).mono ?_; rintro e w' ⟨rfl, hB⟩)
  go_ret
  exact ⟨rfl, hB⟩

set_option maxHeartbeats 1000000 in
theorem law_short (w : World) (A : Option Addr) (c : Nat) (xs : List UInt8) (hn : xs.length ≤ 20000) (hb : Bs w A xs) (hA : A = none → c = 0) :
    Calls Try.prog 3 #[.slice A xs.length c] w fun e w' => e = .returned (.bool true) ∧ Below w.heap.size w w' := by
  obtain ⟨n, hnn⟩ : ∃ n, n = xs.length := ⟨_, rfl⟩
  have HO := Lib.hid (own_any w A c xs 71 hn hb hA)
  have HB := Lib.hid hb
  rw [show bv 71 = .int .u8 71 from rfl, ← hnn] at HO
  rw [← hnn] at hn ⊢
  have hn9 : (n : Int) ≤ 20000 := by omega
  have Hn := Lib.hid hnn
  obtain ⟨tv, htv⟩ : ∃ tv, tv = tabV tab := ⟨_, rfl⟩
  have HT := Lib.hid table_any
  have HT' := Lib.hid rtable_any
  clear hnn hb hA
  go_enter Try.func3, Try.ntmps3
  go_wp2_with (go_at_call 6; refine HO.out.mono ?_; rintro e w1 ⟨rfl, hR, hB1⟩; have HR := Lib.hid hR; have HB1 := Lib.hid hB1; clear hR hB1)
  have hRB : Bs w1 (some ⟨w.heap.size, 0, none⟩) xs := .inr ⟨w.heap.size, 0, rfl, fun j hj => by
    have := HR.out.at j (bv xs[j]) (by rw [List.getElem?_append_left (by simpa using hj)]; simp [hj])
    simpa using this⟩
  have hRA := HB.out.below HB1.out
  have HRB := Lib.hid hRB
  have HRA := Lib.hid hRA
  clear hRB hRA
  go_wp2_with (go_at_call 5; refine (awake_any _).mono ?_; rintro e w2 ⟨rfl, hB2⟩; have HB2 := Lib.hid hB2; clear hB2)
  have HP := Lib.hid (print_any w2 (some ⟨w.heap.size, 0, none⟩) (n + 3) xs (by rw [← Hn.out]; exact hn) (HRB.out.below HB2.out))
  rw [← Hn.out] at HP
  go_wp2_with (go_at_call 7; refine HP.out.mono ?_; rintro e w3 ⟨rfl, hB3⟩; have HB3 := Lib.hid hB3; clear hB3)
  have hB13 : Below w1.heap.size w1 w3 := HB2.out.trans (HB3.out.mono HB2.out.size)
  have HQ := Lib.hid (rprint_any w3 A c xs (by rw [← Hn.out]; exact hn) (HRA.out.below hB13))
  rw [← Hn.out] at HQ
  have HB13 := Lib.hid hB13
  clear hB13 HP
  go_wp2_with (first | (go_at_call 8; refine HQ.out.mono ?_; rintro e w' ⟨rfl, rfl⟩) | (go_at_call 9; refine (HT.out _).mono ?_; rintro e w4 ⟨rfl, hB4⟩; have HB4 := Lib.hid hB4; clear hB4) | (go_at_call 10; refine (HT'.out _).mono ?_; rintro e w5 ⟨rfl, hB5⟩; have HB5 := Lib.hid hB5; clear hB5) | (refine wpL_eq27 rfl _ _ rfl rfl rfl ?_))
  have hB5 : Below w1.heap.size w1 w5 := HB13.out.trans ((HB4.out.trans (HB5.out.mono HB4.out.size)).mono HB13.out.size)
  have HK := Lib.hid (kept_any w5 w.heap.size A c n xs 71 hn Hn.out (HR.out.below hB5) (HRA.out.below hB5))
  rw [show bv 71 = .int .u8 71 from rfl] at HK
  have HB := Lib.hid (HB1.out.trans (hB5.mono HB1.out.size))
  clear hB5
  go_wp2_with (go_at_call 11; refine HK.out.mono ?_; rintro e w6 ⟨rfl, m, rfl⟩)
  go_ret
  exact ⟨rfl, below_drewN HB.out m⟩

set_option maxHeartbeats 1000000 in
theorem turned_awake (w : World) (A : Option Addr) (n c : Nat) (at_ : Int) (y : UInt8) (h : n = 0 ∨ 20000 < n ∨ y = 0) :
    Calls Try.prog 4 #[.slice A n c, .int .i64 at_, bv y] w fun e w' => e = .returned (.bool true) ∧ Below w.heap.size w w' := by
  unfold bv
  by_cases h1 : n = 0
  · subst h1
    clear h
    go_enter Try.func4, Try.ntmps4
    go_wp2_with (go_at_call 5; refine (awake_any _).mono ?_; rintro e w' ⟨rfl, hB⟩)
    go_ret
    exact ⟨rfl, hB⟩
  · have h1' : ((n : Int) == 0) = false := by simp [h1]
    by_cases h2 : 20000 < n
    · have hn9 : (20000 : Int) < (n : Int) := by omega
      clear h h1
      go_enter Try.func4, Try.ntmps4
      go_wp2_with (go_at_call 5; refine (awake_any _).mono ?_; rintro e w' ⟨rfl, hB⟩)
      go_ret
      exact ⟨rfl, hB⟩
    · have hn9 : (n : Int) ≤ 20000 := by omega
      obtain rfl : y = 0 := (h.resolve_left h1).resolve_left h2
      clear h h1
      go_enter Try.func4, Try.ntmps4
      go_wp2_with (go_at_call 5; refine (awake_any _).mono ?_; rintro e w' ⟨rfl, hB⟩)
      go_ret
      exact ⟨rfl, hB⟩

end Go.Proofs.Ytnonjgopdopnfaa
