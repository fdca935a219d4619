import Derived.Test.YtefpigakhhfcaaaDoorMcb
import Derived.WalkKit
import Derived.ProofKit
import Derived.OpenShut
import Derived.Below
import Derived.ChangeMaps5
import Derived.ShutString
import Derived.Deep.Slices
import Derived.SizedLaws
import Derived.Deep.DeepHandedRow
import Derived.Deep.DeepLaidRun
import Derived.Test.YtefpigakhhfcaaaDoorMcc
import Derived.Test.YtefpigakhhfcaaaDoorMcd
/-! For the rows: slices of integers, of bytes, of slices of bytes that came in. -/
section
set_option linter.unusedVariables false
set_option linter.unusedSimpArgs false
namespace Go.Proofs.YtefpigakhhfcaaaDoor
open Go.ChangeShapes Go.WideShapes Go.ChangeAt Go.RowKit Go.Deep

theorem rcells_u8 : Tryd.prog.cellsOf 5 = 1 := by kernel_rfl
theorem rcells_int : Tryd.prog.cellsOf 3 = 1 := by kernel_rfl
theorem rcells_bytes : Tryd.prog.cellsOf 31 = 1 := by kernel_rfl
theorem rbytesOf_bytes : Tryd.prog.bytesOf 31 = 24 := by kernel_rfl
theorem rbytesOf_u8 : Tryd.prog.bytesOf 5 = 1 := by kernel_rfl
theorem row_ofI {H : Type} {enc : TypeId × Value → H} {W : World} {t e : TypeId} {k : IntKind} {fuel : Nat} {c : Value} {x : DataW H × List MemPlace} (ht : Tryd.prog.underlying t = some (.slice e)) (he : Tryd.prog.underlying e = some (.int k)) (hc : Tryd.prog.cellsOf e = 1)
    (h : DataW.trod enc Tryd.prog W 0 (fun _ => true) true fuel t [c] = some x) : ∃ A l cp zs, c = .slice A l cp ∧ IsRow k W A l cp zs := by
  rcases open_ints ht he hc h with ⟨hcs, _⟩ | ⟨x, l, c', zs, hcs, _, hl, hm, hz, _, hcell, hwz⟩
  · exact ⟨none, 0, 0, [], by simpa using hcs, .inl ⟨rfl, rfl, rfl, rfl⟩⟩
  · exact ⟨some x, l, c', zs, by simpa using hcs, .inr ⟨x, rfl, hl, hm, by simpa using hz, hcell, hwz⟩⟩
theorem rowI_bytes {w : World} {a : Option Addr} {len cap : Nat} {zs : List Int} (h : IsRow .u8 w a len cap zs) : ∃ xs : List UInt8, len = xs.length ∧ Bs w a xs ∧ (a = none → cap = 0) ∧ ∀ ad, a = some ad → xs = [] ∨ ad.block < w.heap.size := by
  rcases h with ⟨rfl, rfl, rfl, rfl⟩ | ⟨x, rfl, hl, hm, hz, hc, hw⟩
  · exact ⟨[], rfl, Bs.nil _ _, fun _ => rfl, fun ad e => (by cases e)⟩
  · refine ⟨(zs.take len).map fun z => UInt8.ofNat z.toNat, by simp; omega, ⟨fun e => (by cases e), fun ad e j u hu => ?_⟩, fun e => (by cases e), fun ad e => ?_⟩
    · cases e
      have hj : j < len := by have := (List.getElem?_eq_some_iff.1 hu).1; simp at this; omega
      have hjz : j < zs.length := by omega
      rw [hc j hjz]
      have hg : zs.getD j 0 = zs[j] := by simp [List.getD, hjz]
      have hz' := hw zs[j] (List.getElem_mem hjz)
      have hz2 : 0 ≤ zs[j] ∧ zs[j] < 256 := by
        simp [Lit.wf, IntKind.min, IntKind.max, IntKind.signed, IntKind.bits] at hz'
        omega
      have hu2 : u = .int .u8 ((UInt8.ofNat zs[j].toNat).toNat : Int) := by
        simp [List.getElem?_take, hj, hjz, bv] at hu
        simp [← hu]
      rw [hg, hu2]
      simp
      omega
    · cases e
      rcases Nat.eq_zero_or_pos len with h0 | h0
      · exact .inl (by subst h0; simp)
      · exact .inr (by have := World.block_lt_of_cell? w _ (hc 0 (by omega)); rwa [add_block] at this)
theorem rlist_of {α : Type} {P : Nat → α → Prop} : ∀ n, (∀ j, j < n → ∃ a, P j a) → ∃ l : List α, l.length = n ∧ ∀ (j : Nat) a, l[j]? = some a → P j a
  | 0, _ => ⟨[], rfl, fun j a h => by simp at h⟩
  | n + 1, h => by
    obtain ⟨l, h1, h2⟩ := rlist_of n fun j hj => h j (by omega)
    obtain ⟨a, ha⟩ := h n (Nat.lt_succ_self n)
    refine ⟨l ++ [a], by simp [h1], fun j b hb => ?_⟩
    rcases Nat.lt_or_ge j l.length with hj | hj
    · rw [List.getElem?_append_left hj] at hb
      exact h2 j b hb
    · rw [List.getElem?_append_right hj] at hb
      have : j - l.length = 0 := by
        have := (List.getElem?_eq_some_iff.1 hb).1
        simp at this; omega
      rw [this] at hb
      simp at hb
      obtain rfl : j = n := by omega
      rwa [← hb]
/-- Slices of bytes that can be read, and where they lie. -/
def InBs (W : World) (A : Option Addr) (ps : List BV) : Prop := ∀ (j : Nat) p, ps[j]? = some p → ∃ ad, A = some ad ∧ W.cell? (ad.add j) = some p.val ∧ Bs W p.A p.b ∧ (p.A = none → p.c = 0)
theorem InBs.kept {W W' : World} {A : Option Addr} {ps : List BV} (h : InBs W A ps) (hk : Kept (fun _ => False) W W') : InBs W' A ps := fun j p hp => by
  obtain ⟨ad, h1, h2, h3, h4⟩ := h j p hp
  exact ⟨ad, h1, hk.cell h2 (by simp), h3.kept hk (by simp), h4⟩
theorem bytess_of {H : Type} {enc : TypeId × Value → H} {W : World} {fuel : Nat} {A : Option Addr} {l c : Nat} {x : DataW H × List MemPlace}
    (h : DataW.trod enc Tryd.prog W 0 (fun _ => true) true fuel 22 [.slice A l c] = some x) (hx : ∀ n ∈ x.1.weights Tryd.prog 22, n ≤ reachBytes) :
    ∃ ps : List BV, l = ps.length ∧ l ≤ reachBytes ∧ InBs W A ps := by
  rcases open_slice Tryd.underlying22 h with ⟨hcs, _⟩ | ⟨a, len, cap, m, n, D, Pl, hcs, _, hl, hm, hmm, hxx, hel⟩
  · simp at hcs
    obtain ⟨rfl, rfl, rfl⟩ := hcs
    exact ⟨[], rfl, Nat.zero_le _, fun j p hp => by simp at hp⟩
  · simp at hcs
    obtain ⟨rfl, rfl, rfl⟩ := hcs
    subst hxx
    simp only [DataW.weights, Tryd.underlying22] at hx
    have hb := hx _ List.mem_cons_self
    simp only [List.length_map, List.length_range, rbytesOf_bytes] at hb
    simp at hmm
    obtain ⟨ps, hl1, hl2⟩ := rlist_of (P := fun j (p : BV) => ∃ ad, some a = some ad ∧ W.cell? (ad.add j) = some p.val ∧ Bs W p.A p.b ∧ (p.A = none → p.c = 0)) l fun j hj => by
      obtain ⟨cs', h1, h2⟩ := hel j (by omega)
      rw [rcells_bytes] at h1
      obtain ⟨_, hlen, hcell⟩ := World.cells?_some h1
      obtain ⟨c0, rfl⟩ : ∃ c0, cs' = [c0] := by
        match cs', hlen with
        | [c0], _ => exact ⟨c0, rfl⟩
      obtain ⟨Ab, lb, cb, zb, e1, rb⟩ := row_ofI Tryd.underlying31 Tryd.underlying5 rcells_u8 h2
      subst e1
      obtain ⟨xs, hxl, hB, hA, _⟩ := rowI_bytes rb
      subst hxl
      have hc0 := hcell 0 (by decide)
      exact ⟨⟨Ab, cb, xs⟩, a, rfl, by simpa [Addr.add, BV.val, Addr.add_add] using hc0, hB, hA⟩
    exact ⟨ps, hl1.symm, by omega, hl2⟩
end Go.Proofs.YtefpigakhhfcaaaDoor
end

/-! courantlaw21.SeglogTrims, whatever comes in. -/
section
namespace Go.Proofs.YtefpigakhhfcaaaDoor
open Go.RowKit

theorem seglogTrims_any (w : World) (A A' : Option Addr) (n c n' c' : Nat) (zs zs' : List Int) (h : IsRow .i64 w A n c zs) (h' : IsRow .i64 w A' n' c' zs') : Calls Tryd.prog 5 #[.slice A n c, .slice A' n' c'] w fun e w' => e = .returned (.bool true) ∧ Kept (fun _ => False) w w' := by
  rcases Nat.lt_or_ge 40 n with h4 | h4
  · exact seglogTrims_many w A A' n c n' c' zs zs' h h' h4
  · exact seglogTrims_few w A A' n c n' c' zs zs' h h' h4
end Go.Proofs.YtefpigakhhfcaaaDoor
end
