import Derived.Test.YtnonjgopdopnfaaH
set_option linter.unusedVariables false
set_option linter.unusedSimpArgs false
namespace Go.Proofs.Ytnonjgopdopnfaa
open Go.RowKit Go.Shelf
/-- A slice of bytes that came in reads as a list of bytes. -/
theorem bytes_in (w : World) (a : Option Addr) (len cap : Nat) (zs : List Int)
    (h : (a = none ∧ len = 0 ∧ cap = 0 ∧ zs = []) ∨ ∃ x, a = some x ∧ len ≤ cap ∧ cap ≤ maxLen ∧ zs.length = cap ∧ (∀ i, i < zs.length → w.cell? (x.add i) = some (.int .u8 (zs.getD i 0))) ∧ ∀ n ∈ zs, (Lit.int .u8 n).wf = true) :
    ∃ xs : List UInt8, len = xs.length ∧ Bs w a xs ∧ (a = none → cap = 0) := by
  rcases h with ⟨rfl, rfl, rfl, rfl⟩ | ⟨x, rfl, hl, hm, hz, hc, hw⟩
  · exact ⟨[], rfl, .inl rfl, fun _ => rfl⟩
  · refine ⟨(zs.take len).map fun z => UInt8.ofNat z.toNat, by simp; omega, ?_, fun h => by cases h⟩
    by_cases h0 : len = 0
    · subst h0; exact .inl (by simp)
    · have hx : x.spot = none := by
        have := hc 0 (by omega)
        have e : x.add 0 = x := by simp [Addr.add]
        rw [e] at this
        cases hs : x.spot with
        | none => rfl
        | some s =>
          unfold World.cell? at this
          split at this
          · simp [hs] at this
          · cases this
      obtain ⟨b, o, s⟩ := x
      simp only at hx
      subst hx
      refine .inr ⟨b, o, rfl, fun j hj => ?_⟩
      have hj' : j < len ∧ j < zs.length := by simp at hj; omega
      have h1 := hc j hj'.2
      have e : (⟨b, o, none⟩ : Addr).add j = ⟨b, o + j, none⟩ := by unfold Addr.add; split <;> simp_all
      rw [e] at h1
      rw [h1]
      have h4 : zs.getD j 0 = zs[j]'hj'.2 := by simp [List.getD_eq_getElem?_getD, hj'.2]
      have h2 := hw (zs[j]'hj'.2) (List.getElem_mem _)
      have h3 : 0 ≤ zs[j]'hj'.2 ∧ zs[j]'hj'.2 ≤ 255 := by
        simp [Lit.wf, IntKind.min, IntKind.max, IntKind.signed, IntKind.bits] at h2
        omega
      rw [h4]
      simp only [List.getElem_map, List.getElem_take, bv, UInt8.toNat_ofNat']
      congr 2
      omega
end Go.Proofs.Ytnonjgopdopnfaa
