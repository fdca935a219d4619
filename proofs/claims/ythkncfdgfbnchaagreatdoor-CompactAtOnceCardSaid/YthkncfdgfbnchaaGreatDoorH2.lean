/-
  slices.Values over strings, in order; package files' List.
-/
import Derived.Test.YthkncfdgfbnchaaGreatDoorH1
set_option linter.unusedVariables false
set_option linter.unusedSimpArgs false
namespace Go.Proofs.YthkncfdgfbnchaaGreatDoor
open Go.RowKit Go.Sort

def iNat : Value → Nat
  | .int _ x => x.toNat
  | _ => 0
/-- What a slice of strings reads. -/
def Ss (w : World) (A : Option Addr) (ns : List (List UInt8)) : Prop := ∀ (j : Nat) x, ns[j]? = some x → ∃ ad, A = some ad ∧ w.cell? (ad.add j) = some (.string ⟨x.toArray⟩)
def rdOf (A : Option Addr) (k : Nat) : Prop := ∃ ad, A = some ad ∧ ad.block = k
theorem add_block (ad : Addr) (j : Nat) : (ad.add j).block = ad.block := by unfold Addr.add; split <;> rfl
theorem Ss.same {w w' : World} {A : Option Addr} {ns : List (List UInt8)} (h : Ss w A ns) (hk : ∀ k, rdOf A k → w'.heap[k]? = w.heap[k]?) : Ss w' A ns := by
  intro j x hx
  obtain ⟨ad, rfl, hc⟩ := h j x hx
  exact ⟨ad, rfl, (World.cell?_of_block (by rw [add_block]; exact hk _ ⟨ad, rfl, rfl⟩)).trans hc⟩
set_option maxRecDepth 100000 in
set_option maxHeartbeats 1000000 in
theorem values_iter (B n c : Nat) (A : Option Addr) (ns : List (List UInt8)) (w : World) (hb : Boxed w B 41 (.slice A n c)) (hn : n = ns.length) (hl : n ≤ 1000000) (hs : Ss w A ns) (hA : ∀ ad, A = some ad → ad.block < w.heap.size) :
    Iter Tryz.prog 66 #[.pointer (some ⟨B, 0, none⟩)] (fun x : List UInt8 => #[.string ⟨x.toArray⟩]) (fun _ => False) (rdOf A) ns w := by
  intro l J Jx W hW hJ hJx hY h0
  refine callsIn_of_wp Tryz.func66 rfl trivial ?_ rfl
  have hb' : Boxed W B 41 (.slice A n c) := hW.heap hb (by simp)
  have hcp := hb'.cell
  have HS : Hid (Ss W A ns) := Lib.hid (hs.same fun k ⟨ad, e, e2⟩ => hW.block k (by rw [← e2]; exact hA ad e) (by simp))
  have Hn := Lib.hid hn
  have HY := Lib.hid hY
  have H0 := Lib.hid h0
  clear hb hb' hY hs hA hn h0
  simp only [Tryz.ntmps66, List.size_toArray, List.length_cons, List.length_nil, Nat.reduceAdd, Nat.reduceSub, Array.replicate_succ, Array.replicate_zero, List.push_toArray, List.append_toArray, List.nil_append, List.cons_append]
  gi_wp2
  gi_loopw [4, 7] (fun _ i wr => ∃ j : Nat, i = .int .i64 j ∧ j ≤ n ∧ Hid (J (ns.take j) wr) ∧ Hid (Ss wr A ns)) (fun _ i _ => n - iNat i)
  case atStart => exact ⟨0, rfl, by omega, Lib.hid (by simpa using H0.out), HS⟩
  case round =>
    obtain ⟨j, rfl, hj, hJ1, hS1⟩ := hrel
    by_cases hlt : j < n
    · have hlt' : (j : Int) < (n : Int) := by omega
      have hjn : j < ns.length := by have := Hn.out; omega
      obtain ⟨x, hx⟩ : ∃ x, ns[j]? = some x := ⟨_, List.getElem?_eq_getElem hjn⟩
      have hd : ns.drop j = x :: ns.drop (j + 1) := by
        rw [List.drop_eq_getElem_cons hjn, (List.getElem?_eq_some_iff.1 hx).2]
      obtain ⟨ad, rfl, hc⟩ := hS1.out j x hx
      obtain ⟨fn, tmps, assign, body, hy, hR⟩ := HY.out (ns.take j) x (ns.drop (j + 1)) wr (by rw [← hd, List.take_append_drop]) hJ1.out
      have HR := Lib.hid hR
      have Hx := Lib.hid hx
      have Hd := Lib.hid hd
      clear hR hjn hx hd
      gi_wp2
      refine HR.out.mono ?_
      rintro e W3 (⟨rfl, hJ3, _, hk3⟩ | ⟨rfl, hJx3⟩)
      · have HJ3 := Lib.hid hJ3
        have HS3 := Lib.hid (hS1.out.same hk3)
        clear hJ3 hk3
        gi_wp2
        go_roundw
        case rel =>
          refine ⟨j + 1, congrArg (Value.int .i64) (by omega), by omega, Lib.hid ?_, HS3⟩
          rw [List.take_add_one, Hx.out]
          exact HJ3.out
        case measure => simp only [iNat]; omega
      · gi_wp2
        refine bodyPost_ret (results_none rfl _ _ _) rfl ?_
        refine ⟨⟨_, rfl⟩, .inr ⟨_, ?_, hJx3⟩⟩
        refine ⟨ns.drop (j + 1), ?_⟩
        rw [List.append_assoc, List.singleton_append, ← Hd.out, List.take_append_drop]
    · have hlt' : ¬ (j : Int) < (n : Int) := by omega
      gi_wp2
      refine bodyPost_end (results_none rfl _ _ _) rfl ?_
      have : ns.take j = ns := List.take_of_length_le (by have := Hn.out; omega)
      exact ⟨⟨_, rfl⟩, .inl (by have h := hJ1.out; rw [this] at h; exact h)⟩
theorem Ss.of_own {w : World} {base : Nat} {v : Value} {ns : List (List UInt8)} (h : w.ownsRow base 9 1 v ns.length (ns.map encStr)) :
    ∃ A c, v = .slice A ns.length c ∧ Ss w A ns ∧ (∀ ad, A = some ad → base ≤ ad.block ∧ ad.block < w.heap.size) := by
  rcases h.2 with ⟨hv, h0⟩ | ⟨g, cap, cur, hv, hb, hh, _, _, hc, ht⟩
  · have : ns = [] := List.eq_nil_of_length_eq_zero h0
    subst this
    exact ⟨none, 0, hv, fun j x hx => by simp at hx, fun ad e => (by cases e)⟩
  · refine ⟨_, cap, hv, fun j x hx => ⟨_, rfl, ?_⟩, fun ad e => ?_⟩
    · have hj : j < ns.length := (List.getElem?_eq_some_iff.1 hx).1
      have hu : (ns.map encStr)[j]? = some (encStr x) := by simp [hx]
      rw [← ht, List.getElem?_take_of_lt (by omega)] at hu
      have e1 : (⟨g, 0, none⟩ : Addr).add j = ⟨g, j, none⟩ := by unfold Addr.add; split <;> simp_all
      rw [e1]
      simp only [World.cell?, hh]
      simpa using hu
    · cases e
      exact ⟨hb, (Array.getElem?_eq_some_iff.1 hh).1⟩
theorem valuesS_of (A : Option Addr) (n c : Nat) (w : World) : Calls Tryz.prog 44 #[.slice A n c] w fun e w' => e = .returned (.func (.func 66) #[] #[.pointer (some ⟨w.heap.size, 0, none⟩)]) ∧ w' = w.alloc (.cells #[.slice A n c] 41) := by
  go_enter Tryz.func44, Tryz.ntmps44
  go_wp2
  go_ret
  exact ⟨rfl, rfl⟩
/-- List: an iterator over the names, sorted. -/
def ListPost (w : World) (ps : List PF) (e : Ending) (w' : World) : Prop :=
  ∃ B A c, e = .returned (.func (.func 66) #[] #[.pointer (some ⟨B, 0, none⟩)]) ∧ Boxed w' B 41 (.slice A (sortN ps).length c) ∧ Ss w' A (sortN ps) ∧ (∀ ad, A = some ad → w.heap.size ≤ ad.block ∧ ad.block < w'.heap.size) ∧ w.heap.size ≤ B ∧ Kept (fun _ => False) w w'
set_option maxHeartbeats 1000000 in
theorem list_any (w : World) (F M : Nat) (ps : List PF) (clock : Nat) (lim arm : Int) (dn : Bool) (h : FilesAt w F M ps clock lim arm dn) (hn : ps.length ≤ 1000000) (hm : ∀ p ∈ ps, p.name.size ≤ 1000000) :
    Calls Tryz.prog 18 #[.pointer (some ⟨F, 0, none⟩)] w (ListPost w ps) := by
  have HS := Lib.hid (sorted_any w F M ps clock lim arm dn h hn hm)
  clear h hn hm
  go_enter Tryz.func18, Tryz.ntmps18
  go_wp2_with (first
    | (go_at_call 45; refine HS.out.mono ?_; rintro e w1 ⟨v, rfl, hown, hk⟩; obtain ⟨A, c, rfl, hs, ha⟩ := Ss.of_own hown; have HSs := Lib.hid hs; have HA := Lib.hid ha; have HK := Lib.hid hk; clear hown hs ha hk)
    | (go_at_call 44; refine (valuesS_of _ _ _ _).mono ?_; rintro e w' ⟨rfl, rfl⟩))
  go_ret
  refine ⟨w1.heap.size, A, c, rfl, Boxed.new w1 41 _, HSs.out.same fun k ⟨ad, e, e2⟩ => Below.heap_alloc _ _ _ (by rw [← e2]; exact (HA.out ad e).2), fun ad e => ⟨(HA.out ad e).1, by have := (HA.out ad e).2; simp; omega⟩, HK.out.size, HK.out.alloc _⟩
end Go.Proofs.YthkncfdgfbnchaaGreatDoor
