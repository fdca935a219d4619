/-
  The files' names, sorted: package files' sorted, over the kit's laid contracts on slices.Sorted(maps.Keys(m)).
-/
import Derived.Test.YthkncfdgfbnchaaGreatDoorG1
import Derived.Test.YthkncfdgfbnchaaGreatDoorIter
import Derived.Sort.KeysCollected
set_option linter.unusedVariables false
set_option linter.unusedSimpArgs false
namespace Go.Proofs.YthkncfdgfbnchaaGreatDoor
open Go.RowKit Go.Maps Go.Sort

/-- The names, as the sort leaves them. -/
def namesL (ps : List PF) : List (List UInt8) := ps.map fun p => p.name.data.toList
def sortN (ps : List PF) : List (List UInt8) := (namesL ps).mergeSort leB
theorem sortN_perm (ps : List PF) : (sortN ps).Perm (namesL ps) := List.mergeSort_perm _ _
def anyR (v : Value) : Option (DataW Unit × List MemPlace) := some (.nil, [])
theorem entry_key (p : PF) (h : p.name.size ≤ maxLen) : Go.WideElems.rd Tryz.prog 9 anyR p.entry = some (Lit.string p.name.data.toList, DataW.nil) := by
  simp [Go.WideElems.rd, keyOf, mapKey, Tryz.underlying9, PF.entry, anyR, h]
theorem files_map {w : World} {F M : Nat} {ps : List PF} {clock : Nat} {lim arm : Int} {dn : Bool} (h : FilesAt w F M ps clock lim arm dn) (hn : ps.length ≤ 1000000) (hm : ∀ p ∈ ps, p.name.size ≤ 1000000) :
    ∃ D0 : DataW Unit, w.ownsMap Tryz.prog 9 anyR M 1000000 D0 ∧ Maps.size D0 ≤ 1000000 ∧ (strKeys D0).Perm (namesL ps) := by
  have hrd : ∀ p ∈ ps, Go.WideElems.rd Tryz.prog 9 anyR p.entry = some (Lit.string p.name.data.toList, DataW.nil) := fun p hp => entry_key p (by have := hm p hp; unfold maxLen; omega)
  have hE : (entriesOf ps).toList.map (Go.WideElems.rg Tryz.prog 9 anyR) = ps.map fun p => (Lit.string p.name.data.toList, DataW.nil) := by
    simp only [entriesOf, List.map_map]
    exact List.map_congr_left fun p hp => by simp [Go.WideElems.rg, hrd p hp]
  refine ⟨_, ⟨entriesOf ps, clock, h.map, ⟨by simp [entriesOf]; unfold maxLen; omega, ⟨?_, ?_, ?_⟩, ?_⟩, by simp [entriesOf]; exact hn, rfl⟩, ?_, ?_⟩
  · intro x hx
    simp only [entriesOf] at hx
    obtain ⟨p, hp, rfl⟩ := List.mem_map.1 hx
    exact h.old p hp
  · simp only [entriesOf, List.map_map]
    exact h.borns
  · simp only [entriesOf, List.map_map]
    have e : ((fun x : MapEntry => x.key) ∘ PF.entry) = (fun s : ByteArray => Value.string s) ∘ PF.name := rfl
    rw [show (fun x : MapEntry => x.key) ∘ PF.entry = (fun s : ByteArray => Value.string s) ∘ PF.name from rfl, ← List.map_map]
    exact List.Pairwise.map _ (fun a b hab e => hab (by injection e)) h.names
  · intro x hx
    simp only [entriesOf] at hx
    obtain ⟨p, hp, rfl⟩ := List.mem_map.1 hx
    exact ⟨_, hrd p hp⟩
  · rw [hE]
    have := (Go.WideShapes.sorted_perm (ps.map fun p => (Lit.string p.name.data.toList, (DataW.nil : DataW Unit)))).length_eq
    simp only [Maps.size, this, List.length_map]
    exact hn
  · rw [hE]
    simp only [strKeys]
    refine ((Go.WideShapes.sorted_perm _).map _).trans ?_
    simp only [List.map_map]
    exact List.Perm.of_eq rfl
def SortedPost (w : World) (ps : List PF) (e : Ending) (w' : World) : Prop :=
  ∃ v, e = .returned v ∧ w'.ownsRow w.heap.size 9 1 v (sortN ps).length ((sortN ps).map encStr) ∧ Kept (fun _ => False) w w'
set_option maxRecDepth 100000 in
set_option maxHeartbeats 1000000 in
theorem sorted_any (w : World) (F M : Nat) (ps : List PF) (clock : Nat) (lim arm : Int) (dn : Bool) (h : FilesAt w F M ps clock lim arm dn) (hn : ps.length ≤ 1000000) (hm : ∀ p ∈ ps, p.name.size ≤ 1000000) :
    Calls Tryz.prog 45 #[.pointer (some ⟨F, 0, none⟩)] w (SortedPost w ps) := by
  obtain ⟨D0, hown, hsz, hperm⟩ := files_map h hn hm
  have h0 := FB.c0 h.fb
  have HS := Lib.hid ((callsIn_wide (n := 5)).1 (Tryz.slices_Sorted_keys_67_68 M 1000000 D0 anyR w hown (by unfold maxLen; omega) (by omega)))
  have HK := Lib.hid ((callsIn_wide (n := 5)).1 (Tryz.maps_Keys_68 (some M) w))
  have HP := Lib.hid hperm
  clear h hown hsz hperm hn hm
  go_enter Tryz.func45, Tryz.ntmps45
  go_wp2_with (first
    | (go_at_call 68; refine HK.out.mono ?_; rintro e w' ⟨rfl, rfl⟩)
    | (go_at_call 67; refine HS.out.mono ?_; rintro e w' ⟨v, ss, rfl, hS, hrow, hnil, hb⟩; have HS' := Lib.hid hS; have HR := Lib.hid hrow; have HB := Lib.hid hb; clear hS hrow hnil hb))
  go_ret
  have e1 : ss.mergeSort leB = sortN ps := mergeSort_of_perm (HS'.out.trans HP.out)
  have hk : Kept (fun _ => False) w w' := ((Kept.refl _ w).alloc (.cells #[.map (some M)] 58)).trans' (Kept.of_below HB.out _ (fun k h1 h2 => by omega))
  refine ⟨v, rfl, ?_, hk⟩
  have hlen : ss.length = (sortN ps).length := by rw [← e1]; simp
  have hr := HR.out
  rw [hlen, show (ss.mergeSort fun x y => decide (x ≤ y)) = sortN ps from e1] at hr
  exact Go.Proofs.ownsRow_base_a hr (by simp)
end Go.Proofs.YthkncfdgfbnchaaGreatDoor
