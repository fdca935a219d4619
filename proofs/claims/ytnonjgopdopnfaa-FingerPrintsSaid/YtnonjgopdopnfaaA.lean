import Derived.Test.YtnonjgopdopnfaaProg
import Derived.WalkKit
import Derived.WalkSpells
import Derived.WalkLawsBesides
import Derived.Maps.AppendAt
import Derived.Lib.Hide
set_option linter.unusedVariables false
set_option linter.unusedSimpArgs false
namespace Go.Proofs.Ytnonjgopdopnfaa
open Go.RowKit

theorem ret_int {k : IntKind} {a b : Int} (h : a = b) : Ending.returned (.int k a) = .returned (.int k b) := by rw [h]
theorem ret_bool {a b : Bool} (h : a = b) : Ending.returned (.bool a) = .returned (.bool b) := by rw [h]
/-- A byte as a cell. -/
def bv (x : UInt8) : Value := .int .u8 (x.toNat : Int)
/-- What a slice of bytes reads as. -/
def Bs (w : World) (A : Option Addr) (xs : List UInt8) : Prop :=
  xs = [] ∨ ∃ b o, A = some ⟨b, o, none⟩ ∧ ∀ j (h : j < xs.length), w.cell? ⟨b, o + j, none⟩ = some (bv xs[j])

theorem info5 : (Try.prog.info? 5).map (fun i => (i.zero, i.size, i.bytes)) = some (some (.int .u8 0), 1, 1) := by kernel_rfl

theorem Bs.none {w : World} {xs : List UInt8} (h : Bs w none xs) : xs = [] := by
  rcases h with h | ⟨b, o, h, _⟩
  · exact h
  · cases h
theorem Bs.cells {w : World} {A : Option Addr} {xs : List UInt8} (h : Bs w A xs) : ∀ ad, A = some ad → ∀ j u, (xs.map bv)[j]? = some u → w.cell? (ad.add j) = some u := by
  intro ad had j u hu
  rcases h with rfl | ⟨b, o, h, hc⟩
  · simp at hu
  · rw [had] at h; injection h with h; subst h
    have hj : j < xs.length := by
      have := (List.getElem?_eq_some_iff.1 hu).1
      simpa using this
    have := hc j hj
    simp [hj] at hu
    subst hu
    rw [← this]
    unfold Addr.add; split <;> simp_all
theorem Bs.below {w w1 : World} {A : Option Addr} {xs : List UInt8} (h : Bs w A xs) (hb : Below w.heap.size w w1) : Bs w1 A xs := by
  rcases h with h | ⟨b, o, e, hc⟩
  · exact .inl h
  · exact .inr ⟨b, o, e, fun j hj => (hb.cell (World.block_lt_of_cell? w _ (hc j hj))).trans (hc j hj)⟩

/-- A block of bytes of the call's own: its first cells are known. -/
def Row (w : World) (B n : Nat) (fs : List Value) : Prop :=
  ∃ cur : Array Value, w.heap[B]? = some (.cells cur 5 (0, 0)) ∧ cur.size = n ∧ ∀ (j : Nat) (u : Value), fs[j]? = some u → cur[j]? = some u
theorem Row.cell {w : World} {B n : Nat} {fs : List Value} (h : Row w B n fs) (j : Nat) (hj : j < n) : ∃ v, w.cell? ⟨B, j, none⟩ = some v := by
  obtain ⟨cur, h1, h2, h3⟩ := h
  exact ⟨cur[j]'(by omega), by simp [World.cell?, h1]⟩
theorem Row.at {w : World} {B n : Nat} {fs : List Value} (h : Row w B n fs) (j : Nat) (u : Value) (hj : fs[j]? = some u) : w.cell? ⟨B, j, none⟩ = some u := by
  obtain ⟨cur, h1, h2, h3⟩ := h
  have := h3 j u hj
  simp [World.cell?, h1, this]
theorem Row.frozen {w : World} {B n : Nat} {fs : List Value} (h : Row w B n fs) (j : Nat) : w.frozen? ⟨B, j, none⟩ = false := by
  obtain ⟨cur, h1, h2, h3⟩ := h
  simp [World.frozen?, h1]
theorem Row.push {w : World} {B n : Nat} {fs : List Value} (h : Row w B n fs) (v : Value) (j : Nat) (hj : j = fs.length) (hn : j < n) : Row (w.setCell ⟨B, j, none⟩ v) B n (fs ++ [v]) := by
  obtain ⟨cur, h1, h2, h3⟩ := h
  refine ⟨cur.setIfInBounds j v, ?_, by simp [h2], ?_⟩
  · simp only [World.setCell, Array.getElem?_modify, if_true, h1]; rfl
  · intro i u hi
    rw [List.getElem?_append] at hi
    split at hi
    · rw [Array.getElem?_setIfInBounds_ne (by omega)]; exact h3 i u hi
    · rename_i hlt
      have h0 : i - fs.length = 0 := by
        have := (List.getElem?_eq_some_iff.1 hi).1
        simp at this; omega
      rw [h0] at hi; simp at hi; subst hi
      obtain rfl : i = j := by omega
      rw [Array.getElem?_setIfInBounds_self_of_lt (by omega)]
theorem Row.of_own {w : World} {base n g cap : Nat} {xs : List Value} (h : w.ownsRow base 5 1 (.slice (some ⟨g, 0, none⟩) n cap) n xs) (hn : 0 < cap) : Row w g cap xs := by
  rcases h with ⟨h0, ⟨h1, _⟩ | ⟨g', cap', cur, h1, h2, h3, h4, h5, h6, h7⟩⟩
  · cases h1
  · cases h1
    refine ⟨cur, h3, by simpa using h6, fun j u hu => ?_⟩
    rw [← h7] at hu
    have hj := (List.getElem?_eq_some_iff.1 hu).1
    simp at hj
    rw [List.getElem?_take_of_lt (by omega)] at hu
    simpa using hu
theorem Row.below {w w1 : World} {B n : Nat} {fs : List Value} (h : Row w B n fs) (hb : Below w.heap.size w w1) : Row w1 B n fs := by
  obtain ⟨cur, h1, h2, h3⟩ := h
  exact ⟨cur, by rw [hb.block B (Array.getElem?_eq_some_iff.1 h1).1]; exact h1, h2, h3⟩

set_option maxHeartbeats 400000 in
theorem own_any (w : World) (A : Option Addr) (cap : Nat) (xs : List UInt8) (fill : UInt8) (hn : xs.length ≤ 20000) (hb : Bs w A xs) (hA : A = none → cap = 0) :
    Calls Try.prog 6 #[.slice A xs.length cap, bv fill] w fun e w' => e = .returned (.slice (some ⟨w.heap.size, 0, none⟩) xs.length (xs.length + 3)) ∧ Row w' w.heap.size (xs.length + 3) (xs.map bv ++ List.replicate 3 (bv fill)) ∧ Below w.heap.size w w' := by
  obtain ⟨n, hnn⟩ : ∃ n, n = xs.length := ⟨_, rfl⟩
  rw [← hnn] at hn ⊢
  have Hn := Lib.hid hnn
  clear hnn
  obtain ⟨i0, hi, hz0, hz1, hz2⟩ := info_parts info5
  have hnone : A = none → n = 0 ∧ cap = 0 := fun h => ⟨by have := Hn.out; subst h; rw [this, hb.none]; rfl, hA h⟩
  have Hno := Lib.hid hnone
  clear hnone hA
  obtain ⟨fv, hfv⟩ : ∃ fv, fv = bv fill := ⟨_, rfl⟩
  rw [← hfv]
  have h1c : fv.oneCell' = true := by subst hfv; rfl
  have Hf := Lib.hid hfv
  obtain ⟨fn, hfn⟩ : ∃ fn : Int, fv = .int .u8 fn := ⟨_, hfv⟩
  clear hfv
  subst hfn
  go_enter Try.func6, Try.ntmps6
  go_wp2_with (first | (at_make; refine wpList_make_own _ rfl _ _ 22 rfl (w.heap.size) 5 i0 (.int .u8 0) 1 Try.underlying22 hi hz0 hz1 .i64 .i64 ((n:Int)+3) (n+3) rfl rfl (by omega) ?b1 ?b2 ?b3 ?_; rotate_right; intro w1 hown hgrow) | (at_builtin; refine wpList_append_fits_any _ rfl _ _ 22 rfl (w.heap.size) 5 i0 1 Try.underlying22 hi hz1 w.heap.size 0 (n+3) [] rfl hown A n cap (xs.map bv) rfl ?c1 Hno.out ?c2 ?c3 ?c4 ?_; rotate_right; intro w2 hown2 hgrow2))
  case b1 => rw [hz2]; omega
  case b2 => unfold maxLen; omega
  case b3 => omega
  case c1 => simp [Hn.out]
  case c2 => exact (hb.below ((Below.refl _ _).grown hgrow (Nat.le_refl _) (fun k e => by cases e))).cells
  case c3 => simp [bv, Value.oneCell']
  case c4 => omega
  have hr2 := Row.of_own hown2 (by omega)
  have hB2 : Below w.heap.size w w2 := ((Below.refl _ _).grown hgrow (Nat.le_refl _) (fun k e => by cases e)).grown hgrow2 hgrow.size (fun k e => by cases e; exact Nat.le_refl _)
  clear hown hown2 hgrow hgrow2
  simp only [List.nil_append] at hr2
  go_loopw [7] (fun i wr => ∃ k : Nat, k ≤ 3 ∧ i = .int .i64 (n + k) ∧ Row wr w.heap.size (n + 3) (xs.map bv ++ List.replicate k (.int .u8 fn)) ∧ Below w.heap.size w wr) (fun i _ => n + 3 - (intOf i).toNat)
  case atStart => exact ⟨0, by omega, by simp, by simpa using hr2, hB2⟩
  case round =>
    obtain ⟨k, hk, rfl, hr, hB⟩ := hrel
    by_cases hlt : k < 3
    · obtain ⟨v, hv⟩ := hr.cell (n + k) (by omega)
      have hfz := hr.frozen (n + k)
      have HR := Lib.hid hr
      have HBB := Lib.hid hB
      clear hr hB hr2 hB2
      go_wp2
      go_roundw
      case rel => exact ⟨k + 1, by omega, by go_num, by have := HR.out.push (.int .u8 fn) (n + k) (by simp [Hn.out]) (by omega); simpa [List.replicate_succ'] using this, HBB.out.setCell (Nat.le_refl _) _⟩
      case measure => simp [intOf]; omega
    · obtain rfl : k = 3 := by omega
      go_wp2
      go_ret
      exact ⟨rfl, hr, hB⟩
end Go.Proofs.Ytnonjgopdopnfaa
