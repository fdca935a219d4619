/-
  courantlaw16.FilesSwap, walked.
-/
import Derived.Test.YthkncfdgfbnchaaDoorW2
set_option linter.unusedVariables false
set_option linter.unusedSimpArgs false
namespace Go.Proofs.YthkncfdgfbnchaaDoor
open Go.RowKit

theorem all2_one {p : PF} {qs : List PF} (h : All2 Fell [p] qs) : ∃ q, qs = [q] ∧ Fell p q := by
  obtain ⟨h1, h2⟩ := h
  match qs, h1 with
  | [q], _ => exact ⟨q, rfl, h2 0 p q rfl rfl⟩
theorem all2_two {p r : PF} {qs : List PF} (h : All2 Fell [p, r] qs) : ∃ q s, qs = [q, s] ∧ Fell p q ∧ Fell r s := by
  obtain ⟨h1, h2⟩ := h
  match qs, h1 with
  | [q, s], _ => exact ⟨q, s, rfl, h2 0 p q rfl rfl, h2 1 r s rfl rfl⟩
theorem Own.readA {w W : World} {F M clock : Nat} {l2 : List PF} {q : PF} {ys : List UInt8} (h : Own w W F M (q :: l2) clock 1048576 0 false) (hn : q.name = nmA) (hb : q.b = ys) :
    Calls Tryd.prog 19 #[.pointer (some ⟨F, 0, none⟩), .string ⟨#[97]⟩] W fun e w' => ∃ A c, e = .returned (.tuple #[.slice A ys.length c, .int .i64 0]) ∧ Bs w' A ys ∧ Own w w' F M (q :: l2) clock 1048576 0 false := by
  have := read_some W F M 1048576 0 [] l2 q clock h.at_
  rw [hn, hb] at this
  refine this.mono ?_
  rintro e w' ⟨v, rfl, hown, hk⟩
  obtain ⟨A, c, rfl, _, hbs, _⟩ := Bs.of_own hown
  exact ⟨A, c, rfl, hbs, h.stay hk⟩
theorem Own.readB {w W : World} {F M clock : Nat} {q : PF} (h : Own w W F M [q] clock 1048576 0 false) (hn : q.name = nmA) :
    Calls Tryd.prog 19 #[.pointer (some ⟨F, 0, none⟩), .string ⟨#[98]⟩] W fun e w' => ∃ A n c, e = .returned (.tuple #[.slice A n c, .int .i64 8]) ∧ Kept (fun _ => False) W w' ∧ Own w w' F M [q] clock 1048576 0 false := by
  refine (read_none nmB W F M 1048576 0 [q] clock h.at_ (by simp [hn, nmA, nmB])).mono ?_
  rintro e w' ⟨v, rfl, hown, hk⟩
  obtain ⟨A, c, rfl, _⟩ := Bs.of_own hown
  exact ⟨A, _, c, rfl, hk, h.stay hk⟩
theorem nms {p q : PF} (hp : p.name = nmA) (hq : q.name = nmB) : ∀ r ∈ [p, q], r.name.size ≤ 1000000 := by
  intro r hr
  simp only [List.mem_cons, List.not_mem_nil, or_false] at hr
  rcases hr with rfl | rfl
  · rw [hp]; decide
  · rw [hq]; decide
theorem nms1 {p : PF} (hp : p.name = nmA) : ∀ r ∈ [p], r.name.size ≤ 1000000 := by
  intro r hr
  simp only [List.mem_cons, List.not_mem_nil, or_false] at hr
  subst hr; rw [hp]; decide
set_option maxRecDepth 100000 in
set_option maxHeartbeats 4000000 in
theorem swap_1 (w : World) (A0 A1 A2 : Option Addr) (n0 c0 n1 c1 n2 c2 : Nat) (at_ : Int) (ys xs : List UInt8) (hx : Bs w A0 ys) (hn : n0 = ys.length) (hA : A0 = none → c0 = 0) (hw : ∀ ad, A0 = some ad → ys = [] ∨ ad.block < w.heap.size)
    (hx1 : Bs w A1 xs) (hn1 : n1 = xs.length) (hA1 : A1 = none → c1 = 0) (hw1 : ∀ ad, A1 = some ad → xs = [] ∨ ad.block < w.heap.size) (hks : ∀ j, j < n2 → ∃ ad z, A2 = some ad ∧ w.cell? (ad.add j) = some (.int .i64 z)) (hl0 : n0 ≤ 3000) (hl1 : n1 ≤ 3000) (hl2 : n2 ≤ 50)
    (hk : wrap64 (1 + wrap64 ((IntKind.u64.wrap at_).tmod 4)) = 1) :
    Calls Tryd.prog 5 #[.slice A0 n0 c0, .slice A1 n1 c1, .int .i64 at_, .slice A2 n2 c2] w fun e w' => e = .returned (.bool true) ∧ Kept (fun _ => False) w w' := by
  have HN := Lib.hid (new_room w 1048576)
  have HX := Lib.hid hx
  have HX1 := Lib.hid hx1
  have Hn := Lib.hid hn
  have Hn1 := Lib.hid hn1
  have HA := Lib.hid hA
  have HA1 := Lib.hid hA1
  have Hw := Lib.hid hw
  have Hw1 := Lib.hid hw1
  have Hks := Lib.hid hks
  have Hk := Lib.hid hk
  have g0 : ¬ (3000 : Int) < (n0 : Int) := by omega
  have g1 : ¬ (3000 : Int) < (n1 : Int) := by omega
  have g2 : ¬ (50 : Int) < (n2 : Int) := by omega
  clear hx hx1 hn hn1 hA hA1 hw hw1 hks hk
  go_enter Tryd.func5, Tryd.ntmps5
  go_wp2_with (first
    | (go_at_call 10; refine HN.out.mono ?_; rintro e w1 ⟨F, M, rfl, hr⟩; have HR := Lib.hid hr; clear hr)
    | (go_at_call 11; refine (awake_any _).mono ?_; rintro e w2 ⟨rfl, hk⟩; have HO := Lib.hid (show Own w w2 F M [] 0 1048576 0 false from (HR.out.stay hk).own'); clear hk)
    | (go_at_call 12; with_reducible refine (Own.appA HO.out HX.out Hn.out HA.out (by omega) Hw.out).mono ?_; rintro e w3 ⟨rfl, B, v, ho⟩; have HO3 := Lib.hid ho; clear ho)
    | (go_at_call 15; with_reducible refine (Own.syncA HO3.out).mono ?_; rintro e w4 ⟨rfl, ho⟩; have HO4 := Lib.hid ho; clear ho)
    | (go_at_call 16; rw [Hk.out]; refine (Own.armed HO4.out (n := 1) (by decide) (by decide)).mono ?_; rintro e w5 ⟨rfl, ho⟩; have HO5 := Lib.hid ho; clear ho)
    | (go_at_call 12; refine (Own.appB HO5.out HX1.out Hn1.out HA1.out (by omega) (by have := Hn.out; omega) Hw1.out).mono ?_; rintro e w6 ⟨rfl, B2, v2, ho⟩; have HO6 := Lib.hid ho; clear ho)
    | (go_at_call 17; refine (Own.fallen HO6.out (by simp) (nms rfl rfl) Hks.out).mono ?_; rintro e w9 ⟨rfl, qs, ho, hf⟩; obtain ⟨q, s, rfl, hf1, hf2⟩ := all2_two hf; have HF1 := Lib.hid (hf1.whole rfl); have HF2 := Lib.hid hf2.name; have HO9 := Lib.hid ho; clear ho hf hf1 hf2)
    | (go_at_call 18; refine (Own.started HO9.out (by simp) (nms HF1.out.1 HF2.out)).mono ?_; rintro e w10 ⟨rfl, qs2, ho, hf⟩; obtain ⟨q2, s2, rfl, hf1, hf2⟩ := all2_two hf; have hw2 := hf1.whole HF1.out.2.2; have HNm := Lib.hid (hw2.1.trans HF1.out.1); have HBb := Lib.hid (hw2.2.1.trans HF1.out.2.1); have HO10 := Lib.hid ho; clear ho hf hf1 hw2 hf2)
    | (go_at_call 19; with_reducible refine (Own.readA HO10.out HNm.out HBb.out).mono ?_; rintro e w11 ⟨A9, c9, rfl, hb9, ho⟩; have HO11 := Lib.hid ho; have HB9 := Lib.hid hb9; clear ho hb9)
    | (go_at_call 21; refine (bytes_any _ _ _ _ _ _ _ _ _ rfl Hn.out HB9.out (Own.bs HO11.out HX.out)).mono ?_; rintro e w13 ⟨rfl, rfl⟩))
  go_ret
  exact ⟨ret_bool (by simp), HO11.out.kept⟩
set_option maxRecDepth 100000 in
set_option maxHeartbeats 4000000 in
theorem swap_2 (w : World) (A0 A1 A2 : Option Addr) (n0 c0 n1 c1 n2 c2 : Nat) (at_ : Int) (ys xs : List UInt8) (hx : Bs w A0 ys) (hn : n0 = ys.length) (hA : A0 = none → c0 = 0) (hw : ∀ ad, A0 = some ad → ys = [] ∨ ad.block < w.heap.size)
    (hx1 : Bs w A1 xs) (hn1 : n1 = xs.length) (hA1 : A1 = none → c1 = 0) (hw1 : ∀ ad, A1 = some ad → xs = [] ∨ ad.block < w.heap.size) (hks : ∀ j, j < n2 → ∃ ad z, A2 = some ad ∧ w.cell? (ad.add j) = some (.int .i64 z)) (hl0 : n0 ≤ 3000) (hl1 : n1 ≤ 3000) (hl2 : n2 ≤ 50)
    (hk : wrap64 (1 + wrap64 ((IntKind.u64.wrap at_).tmod 4)) = 2) :
    Calls Tryd.prog 5 #[.slice A0 n0 c0, .slice A1 n1 c1, .int .i64 at_, .slice A2 n2 c2] w fun e w' => e = .returned (.bool true) ∧ Kept (fun _ => False) w w' := by
  have HN := Lib.hid (new_room w 1048576)
  have HX := Lib.hid hx
  have HX1 := Lib.hid hx1
  have Hn := Lib.hid hn
  have Hn1 := Lib.hid hn1
  have HA := Lib.hid hA
  have HA1 := Lib.hid hA1
  have Hw := Lib.hid hw
  have Hw1 := Lib.hid hw1
  have Hks := Lib.hid hks
  have Hk := Lib.hid hk
  have g0 : ¬ (3000 : Int) < (n0 : Int) := by omega
  have g1 : ¬ (3000 : Int) < (n1 : Int) := by omega
  have g2 : ¬ (50 : Int) < (n2 : Int) := by omega
  clear hx hx1 hn hn1 hA hA1 hw hw1 hks hk
  go_enter Tryd.func5, Tryd.ntmps5
  go_wp2_with (first
    | (go_at_call 10; refine HN.out.mono ?_; rintro e w1 ⟨F, M, rfl, hr⟩; have HR := Lib.hid hr; clear hr)
    | (go_at_call 11; refine (awake_any _).mono ?_; rintro e w2 ⟨rfl, hk⟩; have HO := Lib.hid (show Own w w2 F M [] 0 1048576 0 false from (HR.out.stay hk).own'); clear hk)
    | (go_at_call 12; with_reducible refine (Own.appA HO.out HX.out Hn.out HA.out (by omega) Hw.out).mono ?_; rintro e w3 ⟨rfl, B, v, ho⟩; have HO3 := Lib.hid ho; clear ho)
    | (go_at_call 15; with_reducible refine (Own.syncA HO3.out).mono ?_; rintro e w4 ⟨rfl, ho⟩; have HO4 := Lib.hid ho; clear ho)
    | (go_at_call 16; rw [Hk.out]; refine (Own.armed HO4.out (n := 2) (by decide) (by decide)).mono ?_; rintro e w5 ⟨rfl, ho⟩; have HO5 := Lib.hid ho; clear ho)
    | (go_at_call 12; refine (Own.appB HO5.out HX1.out Hn1.out HA1.out (by omega) (by have := Hn.out; omega) Hw1.out).mono ?_; rintro e w6 ⟨rfl, B2, v2, ho⟩; have HO6 := Lib.hid ho; clear ho)
    | (go_at_call 15; refine (Own.syncBhit HO6.out).mono ?_; rintro e w7 ⟨rfl, ho⟩; have HO7 := Lib.hid ho; clear ho)
    | (go_at_call 17; refine (Own.fallen HO7.out (by simp) (nms rfl rfl) Hks.out).mono ?_; rintro e w9 ⟨rfl, qs, ho, hf⟩; obtain ⟨q, s, rfl, hf1, hf2⟩ := all2_two hf; have HF1 := Lib.hid (hf1.whole rfl); have HF2 := Lib.hid hf2.name; have HO9 := Lib.hid ho; clear ho hf hf1 hf2)
    | (go_at_call 18; refine (Own.started HO9.out (by simp) (nms HF1.out.1 HF2.out)).mono ?_; rintro e w10 ⟨rfl, qs2, ho, hf⟩; obtain ⟨q2, s2, rfl, hf1, hf2⟩ := all2_two hf; have hw2 := hf1.whole HF1.out.2.2; have HNm := Lib.hid (hw2.1.trans HF1.out.1); have HBb := Lib.hid (hw2.2.1.trans HF1.out.2.1); have HO10 := Lib.hid ho; clear ho hf hf1 hw2 hf2)
    | (go_at_call 19; with_reducible refine (Own.readA HO10.out HNm.out HBb.out).mono ?_; rintro e w11 ⟨A9, c9, rfl, hb9, ho⟩; have HO11 := Lib.hid ho; have HB9 := Lib.hid hb9; clear ho hb9)
    | (go_at_call 21; refine (bytes_any _ _ _ _ _ _ _ _ _ rfl Hn.out HB9.out (Own.bs HO11.out HX.out)).mono ?_; rintro e w13 ⟨rfl, rfl⟩))
  go_ret
  exact ⟨ret_bool (by simp), HO11.out.kept⟩
set_option maxRecDepth 100000 in
set_option maxHeartbeats 4000000 in
theorem swap_3 (w : World) (A0 A1 A2 : Option Addr) (n0 c0 n1 c1 n2 c2 : Nat) (at_ : Int) (ys xs : List UInt8) (hx : Bs w A0 ys) (hn : n0 = ys.length) (hA : A0 = none → c0 = 0) (hw : ∀ ad, A0 = some ad → ys = [] ∨ ad.block < w.heap.size)
    (hx1 : Bs w A1 xs) (hn1 : n1 = xs.length) (hA1 : A1 = none → c1 = 0) (hw1 : ∀ ad, A1 = some ad → xs = [] ∨ ad.block < w.heap.size) (hks : ∀ j, j < n2 → ∃ ad z, A2 = some ad ∧ w.cell? (ad.add j) = some (.int .i64 z)) (hl0 : n0 ≤ 3000) (hl1 : n1 ≤ 3000) (hl2 : n2 ≤ 50)
    (hk : wrap64 (1 + wrap64 ((IntKind.u64.wrap at_).tmod 4)) = 3) :
    Calls Tryd.prog 5 #[.slice A0 n0 c0, .slice A1 n1 c1, .int .i64 at_, .slice A2 n2 c2] w fun e w' => e = .returned (.bool true) ∧ Kept (fun _ => False) w w' := by
  have HN := Lib.hid (new_room w 1048576)
  have HX := Lib.hid hx
  have HX1 := Lib.hid hx1
  have Hn := Lib.hid hn
  have Hn1 := Lib.hid hn1
  have HA := Lib.hid hA
  have HA1 := Lib.hid hA1
  have Hw := Lib.hid hw
  have Hw1 := Lib.hid hw1
  have Hks := Lib.hid hks
  have Hk := Lib.hid hk
  have g0 : ¬ (3000 : Int) < (n0 : Int) := by omega
  have g1 : ¬ (3000 : Int) < (n1 : Int) := by omega
  have g2 : ¬ (50 : Int) < (n2 : Int) := by omega
  clear hx hx1 hn hn1 hA hA1 hw hw1 hks hk
  go_enter Tryd.func5, Tryd.ntmps5
  go_wp2_with (first
    | (go_at_call 10; refine HN.out.mono ?_; rintro e w1 ⟨F, M, rfl, hr⟩; have HR := Lib.hid hr; clear hr)
    | (go_at_call 11; refine (awake_any _).mono ?_; rintro e w2 ⟨rfl, hk⟩; have HO := Lib.hid (show Own w w2 F M [] 0 1048576 0 false from (HR.out.stay hk).own'); clear hk)
    | (go_at_call 12; with_reducible refine (Own.appA HO.out HX.out Hn.out HA.out (by omega) Hw.out).mono ?_; rintro e w3 ⟨rfl, B, v, ho⟩; have HO3 := Lib.hid ho; clear ho)
    | (go_at_call 15; with_reducible refine (Own.syncA HO3.out).mono ?_; rintro e w4 ⟨rfl, ho⟩; have HO4 := Lib.hid ho; clear ho)
    | (go_at_call 16; rw [Hk.out]; refine (Own.armed HO4.out (n := 3) (by decide) (by decide)).mono ?_; rintro e w5 ⟨rfl, ho⟩; have HO5 := Lib.hid ho; clear ho)
    | (go_at_call 12; refine (Own.appB HO5.out HX1.out Hn1.out HA1.out (by omega) (by have := Hn.out; omega) Hw1.out).mono ?_; rintro e w6 ⟨rfl, B2, v2, ho⟩; have HO6 := Lib.hid ho; clear ho)
    | (go_at_call 15; refine (Own.syncB (by decide) HO6.out).mono ?_; rintro e w7 ⟨rfl, ho⟩; have HO7 := Lib.hid ho; clear ho)
    | (go_at_call 22; refine (Own.renHit HO7.out).mono ?_; rintro e w8 ⟨rfl, ho⟩; have HO8 := Lib.hid ho; clear ho)
    | (go_at_call 17; refine (Own.fallen HO8.out (by simp) (nms rfl rfl) Hks.out).mono ?_; rintro e w9 ⟨rfl, qs, ho, hf⟩; obtain ⟨q, s, rfl, hf1, hf2⟩ := all2_two hf; have HF1 := Lib.hid (hf1.whole rfl); have HF2 := Lib.hid hf2.name; have HO9 := Lib.hid ho; clear ho hf hf1 hf2)
    | (go_at_call 18; refine (Own.started HO9.out (by simp) (nms HF1.out.1 HF2.out)).mono ?_; rintro e w10 ⟨rfl, qs2, ho, hf⟩; obtain ⟨q2, s2, rfl, hf1, hf2⟩ := all2_two hf; have hw2 := hf1.whole HF1.out.2.2; have HNm := Lib.hid (hw2.1.trans HF1.out.1); have HBb := Lib.hid (hw2.2.1.trans HF1.out.2.1); have HO10 := Lib.hid ho; clear ho hf hf1 hw2 hf2)
    | (go_at_call 19; with_reducible refine (Own.readA HO10.out HNm.out HBb.out).mono ?_; rintro e w11 ⟨A9, c9, rfl, hb9, ho⟩; have HO11 := Lib.hid ho; have HB9 := Lib.hid hb9; clear ho hb9)
    | (go_at_call 21; refine (bytes_any _ _ _ _ _ _ _ _ _ rfl Hn.out HB9.out (Own.bs HO11.out HX.out)).mono ?_; rintro e w13 ⟨rfl, rfl⟩))
  go_ret
  exact ⟨ret_bool (by simp), HO11.out.kept⟩
set_option maxRecDepth 100000 in
set_option maxHeartbeats 4000000 in
theorem swap_4 (w : World) (A0 A1 A2 : Option Addr) (n0 c0 n1 c1 n2 c2 : Nat) (at_ : Int) (ys xs : List UInt8) (hx : Bs w A0 ys) (hn : n0 = ys.length) (hA : A0 = none → c0 = 0) (hw : ∀ ad, A0 = some ad → ys = [] ∨ ad.block < w.heap.size)
    (hx1 : Bs w A1 xs) (hn1 : n1 = xs.length) (hA1 : A1 = none → c1 = 0) (hw1 : ∀ ad, A1 = some ad → xs = [] ∨ ad.block < w.heap.size) (hks : ∀ j, j < n2 → ∃ ad z, A2 = some ad ∧ w.cell? (ad.add j) = some (.int .i64 z)) (hl0 : n0 ≤ 3000) (hl1 : n1 ≤ 3000) (hl2 : n2 ≤ 50)
    (hk : wrap64 (1 + wrap64 ((IntKind.u64.wrap at_).tmod 4)) = 4) :
    Calls Tryd.prog 5 #[.slice A0 n0 c0, .slice A1 n1 c1, .int .i64 at_, .slice A2 n2 c2] w fun e w' => e = .returned (.bool true) ∧ Kept (fun _ => False) w w' := by
  have HN := Lib.hid (new_room w 1048576)
  have HX := Lib.hid hx
  have HX1 := Lib.hid hx1
  have Hn := Lib.hid hn
  have Hn1 := Lib.hid hn1
  have HA := Lib.hid hA
  have HA1 := Lib.hid hA1
  have Hw := Lib.hid hw
  have Hw1 := Lib.hid hw1
  have Hks := Lib.hid hks
  have Hk := Lib.hid hk
  have g0 : ¬ (3000 : Int) < (n0 : Int) := by omega
  have g1 : ¬ (3000 : Int) < (n1 : Int) := by omega
  have g2 : ¬ (50 : Int) < (n2 : Int) := by omega
  clear hx hx1 hn hn1 hA hA1 hw hw1 hks hk
  go_enter Tryd.func5, Tryd.ntmps5
  go_wp2_with (first
    | (go_at_call 10; refine HN.out.mono ?_; rintro e w1 ⟨F, M, rfl, hr⟩; have HR := Lib.hid hr; clear hr)
    | (go_at_call 11; refine (awake_any _).mono ?_; rintro e w2 ⟨rfl, hk⟩; have HO := Lib.hid (show Own w w2 F M [] 0 1048576 0 false from (HR.out.stay hk).own'); clear hk)
    | (go_at_call 12; with_reducible refine (Own.appA HO.out HX.out Hn.out HA.out (by omega) Hw.out).mono ?_; rintro e w3 ⟨rfl, B, v, ho⟩; have HO3 := Lib.hid ho; clear ho)
    | (go_at_call 15; with_reducible refine (Own.syncA HO3.out).mono ?_; rintro e w4 ⟨rfl, ho⟩; have HO4 := Lib.hid ho; clear ho)
    | (go_at_call 16; rw [Hk.out]; refine (Own.armed HO4.out (n := 4) (by decide) (by decide)).mono ?_; rintro e w5 ⟨rfl, ho⟩; have HO5 := Lib.hid ho; clear ho)
    | (go_at_call 12; refine (Own.appB HO5.out HX1.out Hn1.out HA1.out (by omega) (by have := Hn.out; omega) Hw1.out).mono ?_; rintro e w6 ⟨rfl, B2, v2, ho⟩; have HO6 := Lib.hid ho; clear ho)
    | (go_at_call 15; refine (Own.syncB (by decide) HO6.out).mono ?_; rintro e w7 ⟨rfl, ho⟩; have HO7 := Lib.hid ho; clear ho)
    | (go_at_call 22; refine (Own.renOk (by decide) HO7.out).mono ?_; rintro e w8 ⟨rfl, ho⟩; have HO8 := Lib.hid ho; clear ho)
    | (go_at_call 17; refine (Own.fallen HO8.out (by simp) (nms1 rfl) Hks.out).mono ?_; rintro e w9 ⟨rfl, qs, ho, hf⟩; obtain ⟨q, rfl, hf1⟩ := all2_one hf; have HF1 := Lib.hid (hf1.whole rfl); have HO9 := Lib.hid ho; clear ho hf hf1)
    | (go_at_call 18; refine (Own.started HO9.out (by simp) (nms1 HF1.out.1)).mono ?_; rintro e w10 ⟨rfl, qs2, ho, hf⟩; obtain ⟨q2, rfl, hf1⟩ := all2_one hf; have hw2 := hf1.whole HF1.out.2.2; have HNm := Lib.hid (hw2.1.trans HF1.out.1); have HBb := Lib.hid (hw2.2.1.trans HF1.out.2.1); have HO10 := Lib.hid ho; clear ho hf hf1 hw2)
    | (go_at_call 19; with_reducible refine (Own.readA HO10.out HNm.out HBb.out).mono ?_; rintro e w11 ⟨A9, c9, rfl, hb9, ho⟩; have HO11 := Lib.hid ho; have HB9 := Lib.hid hb9; clear ho hb9)
    | (go_at_call 19; refine (Own.readB HO11.out HNm.out).mono ?_; rintro e w12 ⟨A8, n8, c8, rfl, hkz, ho⟩; have HB8 := Lib.hid (HB9.out.kept (show Kept (fun _ => False) w11 w12 from hkz) (by simp)); have HO12 := Lib.hid ho; clear ho hkz)
    | (go_at_call 21; refine (bytes_any _ _ _ _ _ _ _ _ _ rfl Hn1.out HB8.out (Own.bs HO12.out HX1.out)).mono ?_; rintro e w13 ⟨rfl, rfl⟩))
  go_ret
  exact ⟨ret_bool (by simp), HO12.out.kept⟩
end Go.Proofs.YthkncfdgfbnchaaDoor
