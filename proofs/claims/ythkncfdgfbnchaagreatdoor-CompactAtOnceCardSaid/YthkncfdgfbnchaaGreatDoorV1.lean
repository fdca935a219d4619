/-
  courantlaw16.FilesSafe: states, bytes of their own, what is appended to them.
-/
import Derived.Test.YthkncfdgfbnchaaGreatDoorW3
import Derived.Test.YthkncfdgfbnchaaGreatDoorD3
set_option linter.unusedVariables false
set_option linter.unusedSimpArgs false
namespace Go.Proofs.YthkncfdgfbnchaaGreatDoor
open Go.RowKit

/-- append(s, xs...) onto bytes of the call's own, xs nil or not. -/
theorem wpList_append_bs {w : World} {ops : Array Oper} {rest : List Oper} {o : Oper} {a : Act} {Q : Exit → Act → World → Prop} (hgd : o.guard = none) (s x : Operand)
    (ho : o.op = .call { callee := .builtin .append, args := #[s, x], argTypes := #[54, 54] })
    (base : Nat) (v : Value) (n : Nat) (ys : List Value) (hs : a.eval s = v) (hown : w.ownsRow base 5 1 v n ys)
    (A : Option Addr) (m c : Nat) (xs : List UInt8) (hx : a.eval x = .slice A m c) (hB : Bs w A xs) (hm : m = xs.length) (hA : A = none → c = 0)
    (h63 : n + m ≤ 1000000000) (hbase : base ≤ w.heap.size)
    (h : ∀ v' w', w'.ownsRow base 5 1 v' (n + m) (ys ++ xs.map bv) → w.grownBy w' v.ownBlock → wpList Tryz.prog ops Q rest (a.put o.dst v') w') : wpList Tryz.prog ops Q (o :: rest) a w := by
  obtain ⟨i0, hi, hz0, hz1, hz2⟩ := info_parts infoU8
  cases A with
  | none =>
    have h1 := hB.1 rfl
    have h2 := hA rfl
    subst h1; subst h2
    simp only [List.length_nil] at hm
    subst hm
    refine wpList_append_own_none hgd s x 54 ho base 5 i0 1 Tryz.underlying54 hi v n ys hs hown hx ?_
    exact h v w (by simpa using hown) ⟨rfl, rfl, rfl, Nat.le_refl _, fun _ _ _ => rfl⟩
  | some ad =>
    refine wpList_append_own w hgd s x 54 ho base 5 i0 (.int .u8 0) 1 1 Tryz.underlying54 hi hz0 hz1 hz2 rfl (by decide) v n ys hs hown ad m c (xs.map bv) hx ?_ ?_ (bv_one xs) ?_ ?_ hbase ?_
    · rw [List.length_map, hm, Nat.mul_one]
    · exact hB.2 ad rfl
    · unfold maxLen; omega
    · omega
    · intro v' w' h2 h3 _
      exact h v' w' h2 h3
/-- couranthelp.CopyBytes. -/
theorem copy_any (w : World) (A : Option Addr) (n c : Nat) (xs : List UInt8) (hn : n = xs.length) (hl : n ≤ 1000000000) (h : Bs w A xs) (hA : A = none → c = 0) : Calls Tryz.prog 39 #[.slice A n c] w (ClonePost w xs) := by
  have H := Lib.hid h
  have Hn := Lib.hid hn
  have HA := Lib.hid hA
  clear h hn hA
  go_enter Tryz.func39, Tryz.ntmps39
  go_wp2_with (at_builtin; refine wpList_append_bs rfl _ _ rfl w.heap.size _ 0 [] rfl (World.ownsRow_nil _ _ _ _) A n c xs rfl H.out Hn.out HA.out (by omega) (Nat.le_refl _) ?_; intro v' w1 hown hgrow)
  simp only [Nat.zero_add, List.nil_append] at hown
  rw [Hn.out] at hown
  go_ret
  exact ⟨v', rfl, hown, (Kept.refl _ w).grown hgrow (fun k e hk => by simp [Value.ownBlock, Act.eval] at e)⟩

/-- Files with "a" (first bytes safe) alone; with "b" beside. -/
abbrev fa (zs : List UInt8) (s B : Nat) (v : Value) : PF := ⟨nmA, zs, s, B, v, 0⟩
abbrev fb (zs : List UInt8) (B : Nat) (v : Value) : PF := ⟨nmB, zs, 0, B, v, 1⟩
theorem Own.appLate {w W : World} {F M B s clock : Nat} {v : Value} {ys : List UInt8} {l2 : List PF} {arm : Int} (h : Own w W F M (fa ys s B v :: l2) clock 1048576 arm false) {A : Option Addr} {n c : Nat} {xs : List UInt8} (hx : Bs w A xs) (hn : n = xs.length) (hA : A = none → c = 0)
    (hu : usedL (fa ys s B v :: l2) ≤ 20000) (hl : n ≤ 5000) :
    Calls Tryz.prog 35 #[.pointer (some ⟨F, 0, none⟩), .string ⟨#[97]⟩, .slice A n c] W fun e w' => e = .returned (.int .i64 (hitE arm)) ∧ ∃ v', Own w w' F M (fa (ys ++ xs) s B v' :: l2) clock 1048576 (decA arm) (decide (arm = 1)) := by
  refine (append_old A n c W F M 1048576 arm [] l2 (fa ys s B v) clock xs (show nmA.size ≤ 140737488355328 by decide) nmA_full h.at_ (by show usedL (fa ys s B v :: l2) ≤ _; omega) (h.bs hx) hn hA (fits_of (u := usedL (fa ys s B v :: l2)) rfl (by omega))).mono ?_
  rintro e w' ⟨v', rfl, hw'⟩
  exact ⟨rfl, v', h.step hw'⟩
theorem Own.appB2 {w W : World} {F M B s : Nat} {v : Value} {ys : List UInt8} (h : Own w W F M [fa ys s B v] 1 1048576 0 false) {A : Option Addr} {n c : Nat} {xs : List UInt8} (hx : Bs w A xs) (hn : n = xs.length) (hA : A = none → c = 0) (hl : n ≤ 5000) (hy : ys.length ≤ 20000)
    (hw : ∀ ad, A = some ad → xs = [] ∨ ad.block < w.heap.size) :
    Calls Tryz.prog 35 #[.pointer (some ⟨F, 0, none⟩), .string ⟨#[98]⟩, .slice A n c] W fun e w' => e = .returned (.int .i64 0) ∧ ∃ B2 v2, Own w w' F M [fa ys s B v, fb xs B2 v2] 2 1048576 0 false := by
  refine (append_new nmB A n c W F M 1048576 0 _ 1 xs (by simp [nmA, nmB]) (by decide) nmB_full h.at_ (by simp [usedL]; omega) (h.bs hx) hn hA (fits_of (u := ys.length) (by simp [usedL]) (by omega)) (fun ad e => ?_)).mono ?_
  · have := h.new M (by simp [foot])
    exact (hw ad e).imp id fun h => by omega
  · rintro e w' ⟨B2, v2, rfl, hw'⟩
    exact ⟨rfl, B2, v2, h.step hw'⟩
/-- What is down refuses. -/
theorem Own.appDown {w W : World} {F M clock : Nat} {ps : List PF} {lim arm : Int} (h : Own w W F M ps clock lim arm true) (s : ByteArray) (bs : Value) :
    Calls Tryz.prog 35 #[.pointer (some ⟨F, 0, none⟩), .string s, bs] W fun e w' => e = .returned (.int .i64 13) ∧ w' = W := by
  refine (append_no (.pointer (some ⟨F, 0, none⟩)) s bs 13 rfl W (Lib.hid (ready_any W F M lim arm true h.at_.fb))).mono ?_
  rintro e w' ⟨rfl, rfl⟩
  exact ⟨rfl, rfl⟩
/-- Read a file: first bytes of what was there. -/
theorem Own.readAt {w W : World} {F M clock : Nat} {l1 l2 : List PF} {q : PF} {s : ByteArray} {ys : List UInt8} (h : Own w W F M (l1 ++ q :: l2) clock 1048576 0 false) (hn : q.name = s) (hb : q.b = ys) :
    Calls Tryz.prog 28 #[.pointer (some ⟨F, 0, none⟩), .string s] W fun e w' => ∃ A c, e = .returned (.tuple #[.slice A ys.length c, .int .i64 0]) ∧ Bs w' A ys ∧ Own w w' F M (l1 ++ q :: l2) clock 1048576 0 false ∧ Kept (fun _ => False) W w' := by
  have := read_some W F M 1048576 0 l1 l2 q clock h.at_
  rw [hn, hb] at this
  refine this.mono ?_
  rintro e w' ⟨v, rfl, hown, hk⟩
  obtain ⟨A, c, rfl, _, hbs, _⟩ := Bs.of_own hown
  exact ⟨A, c, rfl, hbs, h.stay hk, hk⟩
/-- Two falls: the second one takes nothing more. -/
theorem Fell.two {p q r : PF} (h : Fell p q) (k : Fell q r) : r.name = p.name ∧ ∃ m, p.safe ≤ m ∧ m ≤ p.b.length ∧ r.b = p.b.take m := by
  obtain ⟨m, h1, h2, h3, h4⟩ := h.some_
  have hs : q.safe = q.b.length := by rw [h4, h3]; simp; omega
  have hw := k.whole hs
  exact ⟨hw.1.trans h.name, m, h1, h2, by rw [hw.2.1, h3]⟩
theorem own_ge {w : World} {base : Nat} {e : TypeId} {size n : Nat} {v : Value} {xs : List Value} (h : w.ownsRow base e size v n xs) : ∀ k, v.ownBlock = some k → base ≤ k := by
  intro k hk
  rcases h.2 with ⟨hv, _⟩ | ⟨g, cap, cur, hv, hb, _⟩
  · rw [hv] at hk; cases hk
  · have hg : g = k := by rw [hv] at hk; simpa [Value.ownBlock] using hk
    omega
theorem add0 (A : Option Addr) : (A.map (·.add 0)) = A := by
  cases A with
  | none => rfl
  | some a => simp [Addr.add]
/-- What is read is the first bytes of what was there. -/
theorem bytes_take (w : World) (A B : Option Addr) (n c d : Nat) (xs ys : List UInt8) (hx : Bs w A xs) (hn : n = xs.length) (he : xs = ys.take n) (hy : Bs w B ys) :
    Calls Tryz.prog 65 #[.slice A n c, .slice B n d] w fun e w' => e = .returned (.bool true) ∧ w = w' := by
  have hy' : Bs w B (ys.take n) := by
    refine ⟨fun e => ?_, fun ad e j u hu => hy.2 ad e j u ?_⟩
    · have := hy.1 e; simp [this]
    · rw [List.map_take, List.getElem?_take] at hu
      split at hu
      · exact hu
      · cases hu
  refine (bytes_any w A B n c n d xs (ys.take n) hn (by rw [← he]; exact hn) hx hy').mono ?_
  rintro e w' ⟨rfl, rfl⟩
  exact ⟨by rw [decide_eq_true he], rfl⟩
end Go.Proofs.YthkncfdgfbnchaaGreatDoor
