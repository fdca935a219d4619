/-
  Package files: Truncate.
-/
import Derived.Test.YthkncfdgfbnchaaGreatDoorD2
import Derived.Deep.RegionWith
import Derived.Deep.RegionHeld3
set_option linter.unusedVariables false
set_option linter.unusedSimpArgs false
namespace Go.Proofs.YthkncfdgfbnchaaGreatDoor
open Go.RowKit

set_option maxHeartbeats 1000000 in
theorem trunc_neg (w : World) (F M : Nat) (lim arm : Int) (l1 l2 : List PF) (p : PF) (clock : Nat) (n : Int) (hn : n < 0) (h : FilesAt w F M (l1 ++ p :: l2) clock lim arm false) :
    Calls Tryz.prog 30 #[.pointer (some ⟨F, 0, none⟩), .string p.name, .int .i64 n] w (Ret 1 w) := by
  have H := Lib.hid (there_some w F M lim arm l1 l2 p clock h)
  clear h
  go_enter Tryz.func30, Tryz.ntmps30
  go_wp2_with (go_at_call 50; refine H.out.mono ?_; rintro e w' ⟨rfl, rfl⟩)
  go_ret
  exact ⟨rfl, rfl⟩
set_option maxHeartbeats 1000000 in
theorem trunc_far (w : World) (F M : Nat) (lim arm : Int) (l1 l2 : List PF) (p : PF) (clock : Nat) (n : Nat) (hn : p.b.length < n) (h : FilesAt w F M (l1 ++ p :: l2) clock lim arm false) :
    Calls Tryz.prog 30 #[.pointer (some ⟨F, 0, none⟩), .string p.name, .int .i64 n] w (Ret 1 w) := by
  have H := Lib.hid (there_some w F M lim arm l1 l2 p clock h)
  have hp := h.at_ p (by simp)
  obtain ⟨A, c, hv, hlen, hbs, hA, _⟩ := Bs.of_own hp.own
  have hc := hp.c0
  rw [hv] at hc
  have hpl := hp.len
  clear h hp hbs hv hA
  go_enter Tryz.func30, Tryz.ntmps30
  go_wp2_with (go_at_call 50; refine H.out.mono ?_; rintro e w' ⟨rfl, rfl⟩)
  go_ret
  exact ⟨rfl, rfl⟩
set_option maxHeartbeats 1000000 in
theorem trunc_hit (w : World) (F M : Nat) (lim : Int) (l1 l2 : List PF) (p : PF) (clock : Nat) (n : Nat) (hn : n ≤ p.b.length) (h : FilesAt w F M (l1 ++ p :: l2) clock lim 1 false) :
    Calls Tryz.prog 30 #[.pointer (some ⟨F, 0, none⟩), .string p.name, .int .i64 n] w (Gone 13 w F M (l1 ++ p :: l2) (l1 ++ p :: l2) clock lim (decA 1) true) := by
  have HF := Lib.hid h
  have H := Lib.hid (there_some w F M lim 1 l1 l2 p clock h)
  have HH := Lib.hid (hit_any w F M lim 1 h.fb (by omega))
  have hp := h.at_ p (by simp)
  obtain ⟨A, c, hv, hlen, hbs, hA, _⟩ := Bs.of_own hp.own
  have hc := hp.c0
  rw [hv] at hc
  have hpl := hp.len
  clear h hp hbs hv hA
  go_enter Tryz.func30, Tryz.ntmps30
  go_wp2_with (first | (go_at_call 50; refine H.out.mono ?_; rintro e w' ⟨rfl, rfl⟩) | (go_at_call 51; refine HH.out.mono ?_; rintro e w' ⟨rfl, hfb, hk⟩; simp only [decide_true] at hfb ⊢))
  go_ret
  exact ⟨rfl, HF.out.hitW hfb hk⟩
/-- A file is stored anew. -/
theorem own_ne {w : World} {base n : Nat} {v v0 s0 : Value} {xs : List Value} {blk : Nat} (hown : w.ownsRow base 5 1 v n xs) (hc : w.heap[blk]? = some (.cells #[v0, s0] 78 (0, 0))) : ∀ k, v.ownBlock = some k → k ≠ blk := by
  intro k hk e
  subst e
  rcases hown.2 with ⟨hv, _⟩ | ⟨g, cap, cur, hv, _, hh, _⟩
  · rw [hv] at hk; cases hk
  · have hg : g = k := by rw [hv] at hk; simpa [Value.ownBlock] using hk
    subst hg
    rw [hh] at hc
    injection hc with hc
    injection hc with _ hc
    exact absurd hc (by decide)
theorem own_base {w : World} {base : Nat} {e : TypeId} {size n : Nat} {v : Value} {xs : List Value} (h : w.ownsRow base e size v n xs) : w.ownsRow 0 e size v n xs := by
  refine ⟨h.1, ?_⟩
  rcases h.2 with h' | ⟨g, cap, cur, hv, _, r⟩
  · exact .inl h'
  · exact .inr ⟨g, cap, cur, hv, Nat.zero_le _, r⟩
theorem At.store0 {w : World} {blk : Nat} {v0 v : Value} {s born : Nat} {name : ByteArray} {xs : List UInt8} (hc : w.heap[blk]? = some (.cells #[v0, .int .i64 s] 78 (0, 0))) (hown : w.ownsRow 0 5 1 v xs.length (xs.map bv))
    (hs : s ≤ xs.length) (hl : xs.length ≤ 4194304) : (PF.mk name xs s blk v born).At (w.setCell ⟨blk, 0, none⟩ v) := by
  refine ⟨?_, own_kept hown (kF w blk 0 v) (own_ne hown hc), hs, hl⟩
  unfold World.setCell; simp only [Array.getElem?_modify, if_true, hc]; rfl
theorem At.store {w : World} {blk : Nat} {v0 v s0 : Value} {s born : Nat} {name : ByteArray} {xs : List UInt8} (hc : w.heap[blk]? = some (.cells #[v0, s0] 78 (0, 0))) (hown : w.ownsRow 0 5 1 v xs.length (xs.map bv))
    (hs : s ≤ xs.length) (hl : xs.length ≤ 4194304) : (PF.mk name xs s blk v born).At ((w.setCell ⟨blk, 0, none⟩ v).setCell ⟨blk, 1, none⟩ (.int .i64 s)) := by
  refine ⟨?_, own_kept (own_kept hown (kF w blk 0 v) (own_ne hown hc)) (kF _ blk 1 _) (own_ne hown hc), hs, hl⟩
  unfold World.setCell; simp only [Array.getElem?_modify, if_true, hc]; rfl
theorem own_cap {w : World} {base n n' c : Nat} {e : TypeId} {A : Option Addr} {xs : List Value} (h : w.ownsRow base e 1 (.slice A n c) n' xs) : n ≤ c ∧ (A.map (·.add 0)) = A := by
  rcases h.2 with ⟨hv, _⟩ | ⟨g, cap, cur, hv, _, _, hc, _⟩
  · injection hv with e1 e2 e3; subst e1; subst e2; subst e3; exact ⟨Nat.le_refl _, rfl⟩
  · injection hv with e1 e2 e3; subst e1; subst e2; subst e3; exact ⟨hc, rfl⟩
theorem slice_run (W : World) (A : Option Addr) (l n c : Nat) (hA : (A.map (·.add 0)) = A) (hn : n ≤ c) : (Instr.slice 54 (.slice A l c) none (some (.int .i64 n)) none).run Tryz.prog W = .ok (.slice A n c) W := by
  have hsz : ∀ W, (sizeOf 5).run Tryz.prog W = .ok 1 W := fun W => by kernel_rfl
  have h1 : (0 : Int) ≤ (n : Int) ∧ (n : Int) ≤ (c : Int) := by omega
  simp only [Instr.slice, Sem.run_bind, run_underlying Tryz.underlying54, Result.andThen, Instr.sliceBounds, Instr.sliceBound, asIntOf, Sem.run_pure, if_pos h1, hsz, Int.toNat_natCast, Nat.zero_mul, Nat.sub_zero]
  split
  · rfl
  · rw [hA]

theorem trunc_end {w w' w2 : World} {F M : Nat} {l1 l2 : List PF} {p : PF} {clock n : Nat} {lim arm : Int} {dn : Bool} {A2 : Option Addr} {c2 : Nat}
    (HW : Went w F M (l1 ++ p :: l2) (l1 ++ p :: l2) clock lim arm dn w') (HK2 : Kept (fun _ => False) w'.drew w2) (HP2 : PF.At w2 p) (hn : n ≤ p.b.length) (m : Int) (hm : m = ((min p.safe n : Nat) : Int))
    (HO2 : w2.ownsRow w'.drew.heap.size 5 1 (.slice A2 (p.b.take n).length c2) (p.b.take n).length ((p.b.take n).map bv)) :
    Went w F M (l1 ++ p :: l2) (l1 ++ { p with b := p.b.take n, safe := min p.safe n, val := .slice A2 n c2 } :: l2) clock lim arm dn ((w2.setCell ⟨p.blk, 0, none⟩ (.slice A2 n c2)).setCell ⟨p.blk, 1, none⟩ (.int .i64 m)) := by
  have hlt : (p.b.take n).length = n := by simp; omega
  have hob : ∀ k, (Value.slice A2 n c2).ownBlock = some k → w'.heap.size ≤ k := by
    intro k hk
    rcases HO2.2 with ⟨hv, _⟩ | ⟨g, cap, cur, hv, hb, _⟩
    · injection hv with e1; subst e1; cases hk
    · injection hv with e1; subst e1
      have : g = k := by simpa [Value.ownBlock] using hk
      subst this; exact hb
  have hO := own_base HO2
  rw [hlt] at hO
  have hps := HP2.safe
  have hpl := HP2.len
  subst hm
  refine HW.trans (HW.at_.one (q := { p with b := p.b.take n, safe := min p.safe n, val := .slice A2 n c2 }) ?_ (At.store HP2.cell (by rw [hlt]; exact hO) (by rw [hlt]; omega) (by rw [hlt]; omega)) rfl rfl rfl fun k e => .inr (hob k e))
  exact ((((Kept.refl _ w').drew).trans' (HK2.mono fun _ _ h => h.elim)).trans' ((kF w2 p.blk 0 _).mono fun k _ e => by subst e; exact List.mem_cons_self ..)).trans' ((kF _ p.blk 1 _).mono fun k _ e => by subst e; exact List.mem_cons_self ..)
end Go.Proofs.YthkncfdgfbnchaaGreatDoor
