import Derived.Test.YtibalgfejfjndaaGreatDoorMau
import Derived.Test.YtibalgfejfjndaaGreatDoorMav
import Derived.Test.YtibalgfejfjndaaGreatDoorMaw
import Derived.Test.YtibalgfejfjndaaGreatDoorMax
/-! SeglogPlays' world: what open finds; the first segments dropped. -/
section
set_option linter.unusedVariables false
set_option linter.unusedSimpArgs false
namespace Go.Proofs.YtibalgfejfjndaaGreatDoor
open Go.RowKit

/-- What should be there behind a fall, ahead of the cut: what was under way is there, or gone. -/
def UnderOf (w0 : World) (d : Wd) (G G1 : List Prt) (s1 : Nat) : Prop :=
  (d.under = 0 ∧ G1 = G ∧ s1 = d.safe) ∨ (d.under = 1 ∧ ∃ r : BV, d.bb = r.val ∧ r.b.length ≤ 2000 ∧ Bs w0 r.A r.b ∧ (r.A = none → r.c = 0) ∧ G1 = logPut G r.b ∧ s1 = d.safe) ∨
  (d.under = 2 ∧ ∃ j, j < G.length ∧ G1 = G.drop j ∧ s1 = d.safe - (allR (G.take j)).length)
/-- What is known of what should be there. -/
structure PG (d : Wd) (G : List Prt) (rs : List BV) (N i : Nat) : Prop where
  sm : Sml G i
  nm : logNorm G = G
  rA : ∀ r ∈ rs, r.A = none → r.c = 0
  sf : d.safe ≤ rs.length
  hN : N ≤ i
/-- The world between two steps. -/
structure PW (w0 W : World) (B : Nat) (d : Wd) (G : List Prt) (rs : List BV) (N i : Nat) : Prop where
  pg : PG d G rs N i
  ex : ∃ M ps c lim arm v ms, WL w0 W B d G rs N d.T d.F M ps c lim arm d.down v ms d.down ∧ usedL ps ≤ 1000 * i ∧ (d.room = true → lim = 1048576) ∧
    (d.down = false → d.under = 0 ∧ prts ms = G ∧ ∃ sf, LgD ps G [] sf ∧ SafeB G d.safe sf) ∧
    (d.down = true → ∃ G1 s1 D t sf, UnderOf w0 d G G1 s1 ∧ Sml G1 i ∧ LgD ps D t sf ∧ Under D G1 s1 ∧ SafeB D s1 sf)
/-- The first segments dropped, so many. -/
structure DI (w0 W : World) (B : Nat) (d6 : Wd) (Gm : List Prt) (rs6 : List BV) (N6 T F M : Nat) (ps : List PF) (c : Nat) (lim arm : Int) (v : Value) (ms : List PM) (k : Nat) : Prop where
  ex : ∃ dk, WL w0 W B dk (Gm.drop k) (rs6.drop (allR (Gm.take k)).length) N6 T F M ps c lim arm false v ms false ∧ dk.safe = d6.safe - (allR (Gm.take k)).length ∧ d6.Like dk
section
variable {w0 W W' : World} {B N N6 T F M c k : Nat} {d d' d6 dk : Wd} {G Gm : List Prt} {rs rs6 : List BV} {ps : List PF} {lim arm : Int} {v : Value} {ms : List PM}
theorem Wd.Like.refl (d : Wd) : d.Like d := ⟨rfl, rfl, rfl, rfl, rfl, rfl⟩
theorem Wd.Like.trans {a b c : Wd} (h : a.Like b) (k : b.Like c) : a.Like c := ⟨k.F.trans h.F, k.T.trans h.T, k.down.trans h.down, k.under.trans h.under, k.bb.trans h.bb, k.room.trans h.room⟩
theorem DI.zero (h : WL w0 W B d6 Gm rs6 N6 T F M ps c lim arm false v ms false) : DI w0 W B d6 Gm rs6 N6 T F M ps c lim arm v ms 0 := ⟨d6, by simpa [allR] using h, by simp [allR], Wd.Like.refl _⟩
theorem allR_take_succ {p : Prt} {r : List Prt} (h : Gm.drop k = p :: r) : (allR (Gm.take (k + 1))).length = (allR (Gm.take k)).length + p.2.length := by
  have h1 : Gm[k]? = some p := by
    have := congrArg (fun l => l[0]?) h
    simpa using this
  rw [List.take_add_one, h1, Option.toList_some, allR_append, List.length_append]
  simp [allR]
theorem drop_tail {p : Prt} {r : List Prt} (h : Gm.drop k = p :: r) : Gm.drop (k + 1) = r := by
  have := congrArg (List.drop 1) h
  rw [List.drop_drop] at this
  simpa [Nat.add_comm] using this
/-- One more. -/
theorem DI.next {p q : Prt} {r : List Prt} (h : WL w0 W B dk (Gm.drop k) (rs6.drop (allR (Gm.take k)).length) N6 T F M ps c lim arm false v ms false) (hs : dk.safe = d6.safe - (allR (Gm.take k)).length) (hl : d6.Like dk)
    (he : Gm.drop k = p :: q :: r) (hg : WG w0 W' B d' (q :: r) ((rs6.drop (allR (Gm.take k)).length).drop p.2.length) N6) (hm : WMv w0 W B dk W' d') (h1 : d'.safe = dk.safe - p.2.length) (h2 : dk.Like d') : DI w0 W' B d6 Gm rs6 N6 T F M ps c lim arm v ms (k + 1) := by
  refine ⟨d', ?_, ?_, hl.trans h2⟩
  · rw [drop_tail he, allR_take_succ he, ← List.drop_drop]
    exact h.wmv hm hg
  · rw [h1, hs, allR_take_succ he]; omega
/-- A drop that may be. -/
theorem drop_call {n : Nat} (h : WL w0 W B dk (Gm.drop k) (rs6.drop (allR (Gm.take k)).length) N6 T F M ps c lim arm false v ms false) (hs : dk.safe = d6.safe - (allR (Gm.take k)).length) (hl : d6.Like dk) (hg : Sml Gm n) (hn : n ≤ 500) (hnm : logNorm Gm = Gm) (hk : k + 1 < Gm.length) (h6 : d6.safe ≤ 1000) (hrs : ∀ r ∈ rs6, r.A = none → r.c = 0) :
    Calls Tryz.prog 26 #[.pointer (some ⟨B, 0, none⟩)] W fun e w' => e = .returned (.tuple #[]) ∧ DI w0 w' B d6 Gm rs6 N6 T F M ps c lim arm v ms (k + 1) := by
  obtain ⟨p, q, r, he⟩ : ∃ p q r, Gm.drop k = p :: q :: r := by
    have hl2 : (Gm.drop k).length = Gm.length - k := List.length_drop
    match h9 : Gm.drop k with
    | [] => rw [h9] at hl2; simp at hl2; omega
    | [p] => rw [h9] at hl2; simp at hl2; omega
    | p :: q :: r => exact ⟨p, q, r, rfl⟩
  have hsd := hg.drop k
  have hnd := norm_drop (j := k) hnm
  have hwg := h.g
  have hlen := hwg.len
  rw [he] at hsd hnd hwg hlen
  have hne := norm_ne hsd.cont hnd
  refine (wDrop_any hwg (h.kw.size) hsd.cont (by rw [hlen]; exact hne) (by have := hsd.nx; omega) (by have := hsd.few; simp only [List.length_cons] at this; omega) (by omega)).mono ?_
  rintro e w' ⟨rfl, d', h1, h2, h3, h4⟩
  exact ⟨rfl, DI.next h hs hl he h1 h2 h3 h4⟩
end
end Go.Proofs.YtibalgfejfjndaaGreatDoor
end
