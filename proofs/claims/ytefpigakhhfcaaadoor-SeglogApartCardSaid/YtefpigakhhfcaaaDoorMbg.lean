import Derived.Test.YtefpigakhhfcaaaDoorMbf
import Derived.Test.YtefpigakhhfcaaaDoorMaz
/-! segment.places, Scan: the records that stand one behind the other. -/
section
set_option linter.unusedVariables false
set_option linter.unusedSimpArgs false
namespace Go.Proofs.YtefpigakhhfcaaaDoor
open Go.RowKit

theorem infoPl : (Tryd.prog.info? 105).map (fun i => (i.zero, i.size, i.bytes)) = some (some (.agg #[.int .u64 0, .slice none 0 0, .int .i64 0]), 3, 40) := by kernel_rfl
theorem elemPl : ElemT 101 105 3 40 := ElemT.of Tryd.underlying101 infoPl (by kernel_rfl) (by decide) (by decide)
theorem infoRc : (Tryd.prog.info? 73).map (fun i => (i.zero, i.size, i.bytes)) = some (some (.agg #[.int .u64 0, .slice none 0 0]), 2, 32) := by kernel_rfl
theorem elemRc : ElemT 65 73 2 32 := ElemT.of Tryd.underlying65 infoRc (by kernel_rfl) (by decide) (by decide)
def cellsPl : Nat → Nat → List BV → List Value
  | _, _, [] => []
  | n, a, r :: rs => .int .u64 (n : Nat) :: r.val :: .int .i64 (a : Nat) :: cellsPl (n + 1) (a + (16 + r.b.length)) rs
def cellsRc : Nat → List BV → List Value
  | _, [] => []
  | n, r :: rs => .int .u64 (n : Nat) :: r.val :: cellsRc (n + 1) rs
theorem cellsPl_len (n a : Nat) (rs : List BV) : (cellsPl n a rs).length = rs.length * 3 := by
  induction rs generalizing n a with
  | nil => rfl
  | cons r rs ih => simp only [cellsPl, List.length_cons, ih]; omega
theorem cellsRc_len (n : Nat) (rs : List BV) : (cellsRc n rs).length = rs.length * 2 := by
  induction rs generalizing n with
  | nil => rfl
  | cons r rs ih => simp only [cellsRc, List.length_cons, ih]; omega
theorem cellsPl_snoc (n a : Nat) (rs : List BV) (r : BV) : cellsPl n a (rs ++ [r]) = cellsPl n a rs ++ [.int .u64 ((n + rs.length : Nat) : Int), r.val, .int .i64 ((a + sumR (rs.map BV.b) : Nat) : Int)] := by
  induction rs generalizing n a with
  | nil => simp [cellsPl, sumR]
  | cons q rs ih =>
    simp only [List.cons_append, cellsPl, ih, List.length_cons, List.map_cons, sumR, List.sum_cons]
    rw [show n + 1 + rs.length = n + (rs.length + 1) by omega, show a + (16 + q.b.length) + (List.map (fun b : List UInt8 => 16 + b.length) (List.map BV.b rs)).sum = a + (16 + q.b.length + (List.map (fun b : List UInt8 => 16 + b.length) (List.map BV.b rs)).sum) by omega]
theorem cellsRc_snoc (n : Nat) (rs : List BV) (r : BV) : cellsRc n (rs ++ [r]) = cellsRc n rs ++ [.int .u64 ((n + rs.length : Nat) : Int), r.val] := by
  induction rs generalizing n with
  | nil => simp [cellsRc]
  | cons q rs ih =>
    simp only [List.cons_append, cellsRc, ih, List.length_cons]
    rw [show n + 1 + rs.length = n + (rs.length + 1) by omega]
theorem cellsPl_at (n a : Nat) (rs : List BV) (k : Nat) (r : BV) (h : rs[k]? = some r) : (cellsPl n a rs)[k * 3]? = some (.int .u64 ((n + k : Nat) : Int)) ∧ (cellsPl n a rs)[k * 3 + 1]? = some r.val ∧ ∃ z : Nat, (cellsPl n a rs)[k * 3 + 2]? = some (.int .i64 (z : Nat)) := by
  induction rs generalizing n a k with
  | nil => simp at h
  | cons q rs ih =>
    cases k with
    | zero => simp at h; subst h; exact ⟨by simp [cellsPl], by simp [cellsPl], a, by simp [cellsPl]⟩
    | succ k =>
      have := ih (n + 1) (a + (16 + q.b.length)) k (by simpa using h)
      rw [show n + 1 + k = n + (k + 1) by omega] at this
      simp only [cellsPl, show (k + 1) * 3 = k * 3 + 1 + 1 + 1 by omega, List.getElem?_cons_succ, show k * 3 + 1 + 1 + 1 + 1 = k * 3 + 1 + 1 + 1 + 1 from rfl]
      exact this
theorem cellsRc_at (n : Nat) (rs : List BV) (k : Nat) (r : BV) (h : rs[k]? = some r) : (cellsRc n rs)[k * 2]? = some (.int .u64 ((n + k : Nat) : Int)) ∧ (cellsRc n rs)[k * 2 + 1]? = some r.val := by
  induction rs generalizing n k with
  | nil => simp at h
  | cons q rs ih =>
    cases k with
    | zero => simp at h; subst h; simp [cellsRc]
    | succ k =>
      have := ih (n + 1) k (by simpa using h)
      rw [show n + 1 + k = n + (k + 1) by omega] at this
      simp only [cellsRc, show (k + 1) * 2 = k * 2 + 1 + 1 by omega, List.getElem?_cons_succ]
      exact this
/-- Places of the call's own, with bytes of their own. -/
structure OwnPl (w W : World) (first : Nat) (v : Value) (rs : List BV) : Prop where
  row : W.ownsRow w.heap.size 105 3 v rs.length (cellsPl first 0 rs)
  own : ∀ r ∈ rs, W.ownsRow w.heap.size 5 1 r.val r.b.length (r.b.map bv)
  kept : Kept (fun _ => False) w W
/-- Records likewise. -/
structure OwnRc (w W : World) (first : Nat) (v : Value) (rs : List BV) : Prop where
  row : W.ownsRow w.heap.size 73 2 v rs.length (cellsRc first rs)
  own : ∀ r ∈ rs, W.ownsRow w.heap.size 5 1 r.val r.b.length (r.b.map bv)
  kept : Kept (fun _ => False) w W
/-- A block of bytes is none of another kind's. -/
theorem own_other {W : World} {e1 b1 b2 s1 s2 n m : Nat} {v u : Value} {xs ys : List Value} (he : e1 ≠ 5) (h1 : W.ownsRow b1 e1 s1 v n xs) (h2 : W.ownsRow b2 5 s2 u m ys) : ∀ k, u.ownBlock = some k → v.ownBlock ≠ some k := by
  intro k e e2
  rcases h1.2 with ⟨hv, _⟩ | ⟨g, _, _, hv, _, hh, _⟩
  · rw [hv] at e2; cases e2
  · rcases h2.2 with ⟨hu, _⟩ | ⟨g', _, _, hu, _, hh', _⟩
    · rw [hu] at e; cases e
    · have hg : g = k := by rw [hv] at e2; simpa [Value.ownBlock] using e2
      have hg' : g' = k := by rw [hu] at e; simpa [Value.ownBlock] using e
      subst hg; subst hg'
      rw [hh] at hh'
      simp only [Option.some.injEq, Obj.cells.injEq] at hh'
      exact he hh'.2.1
section
variable {w W W' : World} {first : Nat} {v v' : Value} {rs : List BV}
theorem OwnPl.stay (h : OwnPl w W first v rs) (hk : Kept (fun _ => False) W W') : OwnPl w W' first v rs := ⟨own_kept h.row hk (by simp), fun q hq => own_kept (h.own q hq) hk (by simp), h.kept.trans' hk⟩
theorem OwnRc.stay (h : OwnRc w W first v rs) (hk : Kept (fun _ => False) W W') : OwnRc w W' first v rs := ⟨own_kept h.row hk (by simp), fun q hq => own_kept (h.own q hq) hk (by simp), h.kept.trans' hk⟩
theorem OwnPl.grow {r : BV} {at_ : Nat} (h : OwnPl w W first v rs) (ho : W'.ownsRow w.heap.size 105 3 v' (rs.length + 1) (cellsPl first 0 rs ++ [.int .u64 ((first + rs.length : Nat) : Int), r.val, .int .i64 (at_ : Nat)])) (hg : Grew W W' v v') (ha : at_ = sumR (rs.map BV.b)) (hr : W.ownsRow w.heap.size 5 1 r.val r.b.length (r.b.map bv)) : OwnPl w W' first v' (rs ++ [r]) := by
  have hK := hg.kept
  refine ⟨by rw [List.length_append, List.length_singleton, cellsPl_snoc, Nat.zero_add, ← ha]; exact ho, fun q hq => ?_, h.kept.trans hK fun k hk e => by have := own_ge h.row k e; omega⟩
  rcases List.mem_append.1 hq with hq | hq
  · exact own_kept (h.own q hq) hK fun k e => own_other (by decide) h.row (h.own q hq) k e
  · simp only [List.mem_singleton] at hq
    subst hq
    exact own_kept hr hK fun k e => own_other (by decide) h.row hr k e
theorem OwnRc.grow {r : BV} (h : OwnRc w W first v rs) (ho : W'.ownsRow w.heap.size 73 2 v' (rs.length + 1) (cellsRc first rs ++ [.int .u64 ((first + rs.length : Nat) : Int), r.val])) (hg : Grew W W' v v') (hr : W.ownsRow w.heap.size 5 1 r.val r.b.length (r.b.map bv)) : OwnRc w W' first v' (rs ++ [r]) := by
  have hK := hg.kept
  refine ⟨by rw [List.length_append, List.length_singleton, cellsRc_snoc]; exact ho, fun q hq => ?_, h.kept.trans hK fun k hk e => by have := own_ge h.row k e; omega⟩
  rcases List.mem_append.1 hq with hq | hq
  · exact own_kept (h.own q hq) hK fun k e => own_other (by decide) h.row (h.own q hq) k e
  · simp only [List.mem_singleton] at hq
    subst hq
    exact own_kept hr hK fun k e => own_other (by decide) h.row hr k e
end
end Go.Proofs.YtefpigakhhfcaaaDoor
end

/-! segment.places, walked. -/
section
set_option linter.unusedVariables false
set_option linter.unusedSimpArgs false
namespace Go.Proofs.YtefpigakhhfcaaaDoor
open Go.RowKit

theorem frsL_at {f : Nat} {l : List (List UInt8)} {tail : List UInt8} {j : Nat} {d : List UInt8} (h : l[j]? = some d) :
    (frsL f l ++ tail).drop (frsL f (l.take j)).length = frameB (f + j) d ++ (frsL (f + j + 1) (l.drop (j + 1)) ++ tail) ∧ (frsL f (l.take (j + 1))).length = (frsL f (l.take j)).length + (16 + d.length) := by
  have hj := (List.getElem?_eq_some_iff.1 h).1
  have e1 : l = l.take j ++ d :: l.drop (j + 1) := by
    rw [← (List.getElem?_eq_some_iff.1 h).2, ← List.drop_eq_getElem_cons hj, List.take_append_drop]
  have e2 : (l.take j).length = j := by rw [List.length_take]; omega
  constructor
  · have e3 : frsL f l = frsL f (l.take j) ++ (frameB (f + j) d ++ frsL (f + j + 1) (l.drop (j + 1))) := by
      conv => lhs; rw [e1]
      rw [frsL_append, e2]
      simp only [frsL]
    rw [e3, List.append_assoc, List.drop_left, List.append_assoc]
  · rw [List.take_add_one, h, Option.toList_some, frsL_append, e2, List.length_append]
    simp only [frsL, List.append_nil, frameB_len]
    omega
theorem sumR_le (f : Nat) (l : List (List UInt8)) : l.length * 16 ≤ (frsL f l).length := by
  rw [frsN_len]
  induction l with
  | nil => simp [sumR]
  | cons b l ih => simp only [sumR, List.map_cons, List.sum_cons, List.length_cons] at *; omega
def PlacesPost (w : World) (first : Nat) (l : List (List UInt8)) (e : Ending) (w' : World) : Prop :=
  ∃ v rs, e = .returned (.tuple #[v, .int .i64 ((frsL first l).length : Nat)]) ∧ rs.map BV.b = l ∧ OwnPl w w' first v rs
set_option maxRecDepth 100000 in
set_option maxHeartbeats 8000000 in
theorem places_any (w : World) (A : Option Addr) (n c first : Nat) (b t : List UInt8) (l : List (List UInt8)) (hn : n = b.length) (hc : n ≤ c) (hA : A = none → c = 0) (hb : Bs w A b) (hn9 : n ≤ 5000000)
    (hp : b = frsL first l ++ t) (ht : PartF (first + l.length) t) (hl : ∀ x ∈ l, x.length ≤ 32768) (h64 : first + l.length ≤ 9223372036854775807) :
    Calls Tryd.prog 49 #[.slice A n c, .int .u64 (first : Nat)] w (PlacesPost w first l) := by
  have HB := Lib.hid hb
  have HP := Lib.hid hp
  have Hn := Lib.hid hn
  have HA := Lib.hid hA
  have HT := Lib.hid ht
  have Hl := Lib.hid hl
  obtain ⟨ln, hln⟩ : ∃ ln, ln = l.length := ⟨_, rfl⟩
  have hln9 : ln ≤ 400000 := by
    have h1 := sumR_le first l
    have h2 := congrArg List.length hp
    rw [List.length_append] at h2
    omega
  rw [← hln] at h64
  have Hln := Lib.hid hln
  have H0 : Hid (OwnPl w w first (.slice none 0 0) []) := Lib.hid ⟨World.ownsRow_nil _ _ _ _, fun q hq => by simp at hq, Kept.refl _ _⟩
  clear hb hp hn hA ht hl hln
  go_enter Tryd.func49, Tryd.ntmps49
  go_wp2_with fail
  go_step3
  go_wp2_with fail
  go_step3
  go_wp2_with fail
  go_loopw [6, 7, 8] (fun v a x wr => ∃ (j : Nat) (rs : List BV), a = .int .i64 ((frsL first (l.take j)).length : Nat) ∧ x = .int .u64 ((first + j : Nat) : Int) ∧ j ≤ ln ∧ Hid (rs.map BV.b = l.take j) ∧ Hid (OwnPl w wr first v rs)) (fun _ _ x _ => first + ln + 1 - (intOf x).toNat)
  case atStart => exact ⟨0, [], rfl, rfl, by omega, Lib.hid rfl, H0⟩
  case round =>
    obtain ⟨j, rs, rfl, rfl, hj, hR, hO⟩ := hrel
    obtain ⟨sz, hsz⟩ : ∃ sz, sz = (frsL first (l.take j)).length := ⟨_, rfl⟩
    obtain ⟨y, hy⟩ : ∃ y, y = first + j := ⟨_, rfl⟩
    rw [← hsz, ← hy]
    have hszn : sz ≤ n := by
      rw [hsz, Hn.out, HP.out, List.length_append]
      have h1 : l = l.take j ++ l.drop j := (List.take_append_drop j l).symm
      have h2 : frsL first l = frsL first (l.take j) ++ frsL (first + (l.take j).length) (l.drop j) := by rw [← frsL_append, ← h1]
      rw [h2, List.length_append]
      omega
    have hBs : Bs wr A b := HB.out.kept hO.out.kept (by simp)
    obtain ⟨A2, hs2, hb2, hA2⟩ := fromB_form A n sz c b Hn.out hszn hc HA.out
    obtain ⟨n2, hn2⟩ : ∃ n2, n2 = n - sz := ⟨_, rfl⟩
    obtain ⟨c2, hc2⟩ : ∃ c2, c2 = c - sz := ⟨_, rfl⟩
    rw [← hn2, ← hc2] at hs2
    rw [← hc2] at hA2
    by_cases hlt : j < ln
    · obtain ⟨d, hd⟩ : ∃ d, l[j]? = some d := ⟨_, List.getElem?_eq_getElem (by have := Hln.out; omega)⟩
      obtain ⟨hd1, hd2⟩ := frsL_at (f := first) (tail := t) hd
      have hdl := Hl.out d (List.mem_of_getElem? hd)
      have HTk : Hid (Calls Tryd.prog 61 #[.slice A2 n2 c2] wr (TakeOk wr y d)) := Lib.hid (by
        exact fTake_ok wr A2 n2 c2 y d (frsL (first + j + 1) (l.drop (j + 1)) ++ t) (b.drop sz) (by rw [List.length_drop, hn2, Hn.out]) (by omega) (by omega) hA2 (hb2 wr hBs) hdl (by omega) (by rw [HP.out, hsz, hy]; exact hd1))
      obtain ⟨k, hk⟩ : ∃ k, k = 16 + d.length := ⟨_, rfl⟩
      have hk9 : k ≤ 32784 := by omega
      have Hk := Lib.hid hk
      have Hd := Lib.hid hd
      have Hsz := Lib.hid (And.intro hsz hd2)
      have Hy := Lib.hid hy
      have hy9 : y ≤ 9223372036854775806 := by omega
      clear hBs hb2 hA2 hn2 hc2 hdl hd hsz hd1 hd2 hk hy
      go_upto_region 6 with (go_at_call 61; refine HTk.out.mono ?_; rintro e w1 ⟨V1, rfl, ho1, hk1⟩; rw [← Hk.out]; obtain ⟨A1, c1, rfl⟩ := own_slice ho1; have HO1 := Lib.hid ho1; have HK1 := Lib.hid hk1; clear ho1 hk1)
      obtain ⟨D, hD⟩ : ∃ D, D = w1.heap.size := ⟨_, rfl⟩
      obtain ⟨W2, hW2⟩ : ∃ W2, W2 = w1.alloc (.cells #[.int .u64 (y : Nat), .slice A1 d.length c1] 73) := ⟨_, rfl⟩
      have HB2 : Hid (BoxR W2 D y (.slice A1 d.length c1)) := Lib.hid (by rw [hW2, hD]; exact heap_alloc_new w1 _)
      have HK2 : Hid (Kept (fun _ => False) w1 W2) := Lib.hid (by rw [hW2]; exact (Kept.refl _ w1).alloc _)
      have HKr : Hid (Kept (fun _ => False) wr W2) := Lib.hid (HK1.out.trans' HK2.out)
      have HO2 := Lib.hid (hO.out.stay HKr.out)
      have HOr : Hid (W2.ownsRow w.heap.size 5 1 (.slice A1 d.length c1) d.length (d.map bv)) := Lib.hid (own_kept (own_low HO1.out (Nat.le_trans hO.out.kept.size (Nat.le_refl _))) HK2.out (by simp))
      rw [← hD, ← hW2]
      clear hD hW2
      have y0 := HB2.out.c0
      have y1 := HB2.out.c1
      obtain ⟨lr, hlr⟩ : ∃ lr, lr = rs.length := ⟨_, rfl⟩
      have hlrj : lr = j := by
        have := congrArg List.length hR.out
        rw [List.length_map, List.length_take] at this
        have := Hln.out; omega
      have Hlr := Lib.hid (And.intro hlr hlrj)
      have hlr9 : lr ≤ 400000 := by omega
      clear hlr hlrj
      go_upto_region 8 with (at_builtin; refine wpList_append_e elemPl rfl _ _ rfl w.heap.size _ lr _ rfl (by rw [Hlr.out.1]; exact own_kept HO2.out.row ((Kept.refl (fun _ => False) W2).alloc _) (by simp)) _ 1 1 [.int .u64 (y : Nat), .slice A1 d.length c1, .int .i64 (sz : Nat)] rfl (cs_new _ _ _) rfl (by simp [Value.oneCell']) (fun e => by cases e) (by omega) (Nat.le_trans HO2.out.kept.size ((Kept.refl (fun _ => False) W2).alloc _).size) ?_; intro v7 w7 hown hgrow; have HO7 := Lib.hid hown; have HG7 := Lib.hid hgrow; clear hown hgrow)
      have hyM : ¬ (y : Int) = 18446744073709551615 := by omega
      have hsz9 : (sz : Int) ≤ 5000000 := by omega
      have hk8 : (k : Int) ≤ 32784 := by omega
      have hy8 : (y : Int) ≤ 9223372036854775806 := by omega
      clear y0 y1
      go_wp2_with fail
      go_roundw
      case rel =>
        refine ⟨j + 1, rs ++ [⟨A1, c1, d⟩], ?_, ?_, by omega, Lib.hid ?_, Lib.hid ?_⟩
        · rw [Hsz.out.2, ← Hsz.out.1, ← Hk.out]; go_num
        · rw [← Nat.add_assoc, ← Hy.out]; go_num
        · rw [List.map_append, hR.out, List.map_singleton, List.take_add_one, Hd.out]; rfl
        · have h1 := HO7.out
          rw [Hlr.out.1] at h1
          have h0 : OwnPl w (W2.alloc (.cells [.int .u64 (y : Nat), .slice A1 d.length c1, .int .i64 (sz : Nat)].toArray 105)) first u6 rs := HO2.out.stay ((Kept.refl (fun _ => False) W2).alloc _)
          refine h0.grow (r := ⟨A1, c1, d⟩) (at_ := sz) ?_ HG7.out ?_ (own_kept HOr.out ((Kept.refl (fun _ => False) W2).alloc _) (by simp))
          · rw [← Hlr.out.1, Hlr.out.2, ← Hy.out]; rw [← Hlr.out.1] at h1; rw [Hlr.out.2] at h1; exact h1
          · rw [hR.out, Hsz.out.1, frsN_len]
      case measure => simp [intOf]; have := Hy.out; omega
    · obtain rfl : j = ln := by omega
      have hsh : Calls Tryd.prog 61 #[.slice A2 n2 c2] wr (TakeShort wr) := by
        obtain ⟨yy, m, h1, h2, h3⟩ := HT.out
        have h4 : b.drop sz = t := by rw [HP.out, hsz, Hln.out, List.take_length, List.drop_left]
        have h5 : n2 = t.length := by rw [hn2, Hn.out, ← List.length_drop, h4]
        have h6 : t.length = m := by rw [h3, List.length_take]; omega
        by_cases h16 : n2 < 16
        · exact fTake_less wr A2 n2 c2 h16
        · exact fTake_part wr A2 n2 c2 (first + l.length) yy t h5 (by omega) (by rw [← h4]; exact hb2 wr hBs) h1 (by omega) (by omega) (by rw [h5, h6]; exact h3)
      have HTk := Lib.hid hsh
      have Hsz := Lib.hid hsz
      have Hy := Lib.hid hy
      clear hBs hb2 hA2 hn2 hc2 hsz hy hsh
      go_wp2_with (go_at_call 61; refine HTk.out.mono ?_; rintro e w1 ⟨rfl, hk1⟩; have HK1 := Lib.hid hk1; clear hk1)
      rw [Exit.noGoto_ret]
      go_ret2
      have e1 : l.take j = l := List.take_of_length_le (by have := Hln.out; omega)
      refine ⟨u6, rs, ?_, by rw [hR.out, e1], hO.out.stay (HK1.out.alloc _)⟩
      rw [Hsz.out, e1]; rfl
end Go.Proofs.YtefpigakhhfcaaaDoor
end
