import Derived.Test.YtefpigakhhfcaaaDoorMba
import Derived.Test.YtefpigakhhfcaaaDoorMaz
import Derived.Test.YtefpigakhhfcaaaDoorMam
import Derived.Test.YtefpigakhhfcaaaDoorMaq
import Derived.OwnWalkIn
import Derived.Test.YtefpigakhhfcaaaDoorMap
/-! How many bytes the files have, when one is another one. -/
section
set_option linter.unusedVariables false
set_option linter.unusedSimpArgs false
namespace Go.Proofs.YtefpigakhhfcaaaDoor
open Go.RowKit

theorem sum_put' {S : List ByteArray} {d : Disk} {s : ByteArray} {x : Option FV} (hS : S.Nodup) (hs : s ∈ S) : (S.map fun t => szV (d.put s x t)).sum + szV (d s) = (S.map fun t => szV (d t)).sum + szV x := by
  induction S with
  | nil => cases hs
  | cons a S ih =>
    rw [List.nodup_cons] at hS
    simp only [List.map_cons, List.sum_cons]
    by_cases hx : s = a
    · subst hx
      rw [Disk.put_same]
      have : (S.map fun t => szV (d.put s x t)) = (S.map fun t => szV (d t)) := by
        apply List.map_congr_left
        intro t ht
        rw [Disk.put_ne _ _ (fun e => hS.1 (by rw [← e]; exact ht))]
      rw [this]; omega
    · have h1 := ih hS.2 ((List.mem_cons.1 hs).resolve_left hx)
      rw [Disk.put_ne _ _ fun e => hx e.symm]; omega
theorem used_put {ps ps' : List PF} {s : ByteArray} {x : Option FV} (hn : (ps.map PF.name).Nodup) (hn' : (ps'.map PF.name).Nodup) (h : lk ps' = (lk ps).put s x) : usedL ps' + szV (lk ps s) = usedL ps + szV x := by
  obtain ⟨S, hS, hs, hp⟩ : ∃ S : List ByteArray, S.Nodup ∧ s ∈ S ∧ ∀ p ∈ ps, p.name ∈ S := by
    by_cases e : s ∈ ps.map PF.name
    · exact ⟨ps.map PF.name, hn, e, fun p hp => List.mem_map_of_mem hp⟩
    · exact ⟨s :: ps.map PF.name, List.nodup_cons.2 ⟨e, hn⟩, List.mem_cons_self, fun p hp => List.mem_cons_of_mem _ (List.mem_map_of_mem hp)⟩
  have hp' : ∀ p ∈ ps', p.name ∈ S := fun p hp2 => by
    by_cases e : p.name = s
    · rw [e]; exact hs
    · have h1 := lk_mem hp2
      rw [h, Disk.put_ne _ _ e] at h1
      cases h2 : lk ps p.name with
      | none => exact absurd h2 h1
      | some v =>
        obtain ⟨l1, q, l2, rfl, h3, -⟩ := lk_split h2
        rw [← h3]; exact hp q (by simp)
  rw [used_sum hS hn hp, used_sum hS hn' hp', h]
  exact sum_put' hS hs
theorem used_same {ps ps' : List PF} (hn : (ps.map PF.name).Nodup) (hn' : (ps'.map PF.name).Nodup) (h : lk ps' = lk ps) : usedL ps' = usedL ps := by
  have := used_put (s := ⟨#[]⟩) (x := lk ps ⟨#[]⟩) hn hn' (by rw [h, put_id rfl])
  omega
theorem pair_D {ps : List PF} {nk nt : ByteArray} (hne : nk ≠ nt) (hn : (ps.map PF.name).Nodup) (h : ∀ s, s ≠ nk → s ≠ nt → lk ps s = none) : (∀ p ∈ ps, p.name = nk ∨ p.name = nt) ∧ ps.length ≤ 2 ∧ usedL ps = szV (lk ps nk) + szV (lk ps nt) := by
  have h1 : ∀ p ∈ ps, p.name = nk ∨ p.name = nt := fun p hp => by
    by_cases e : p.name = nk
    · exact .inl e
    · by_cases e2 : p.name = nt
      · exact .inr e2
      · exact absurd (h _ e e2) (lk_mem hp)
  refine ⟨h1, ?_, ?_⟩
  · have := len_sub (S := [nk, nt]) hn fun x hx => by
      obtain ⟨p, hp, rfl⟩ := List.mem_map.1 hx
      have := h1 p hp
      simpa using this
    simpa using this
  · have := used_sum (S := [nk, nt]) (by simp [hne]) hn fun p hp => by have := h1 p hp; simpa using this
    simpa using this
end Go.Proofs.YtefpigakhhfcaaaDoor
end

/-! compact.copied, whatever hits the files, and however little room there is. -/
section
set_option linter.unusedVariables false
set_option linter.unusedSimpArgs false
namespace Go.Proofs.YtefpigakhhfcaaaDoor
open Go.RowKit Go.Sort
attribute [local go_sem] Oper.semAt_some

/-- How copied ends early. -/
def CpE (ps ps' : List PF) (lim arm arm' : Int) (nt : ByteArray) (dn' : Bool) (tot : Nat) (er : Int) : Prop :=
  (∀ t, t ≠ nt → lk ps' t = lk ps t) ∧ (arm = 0 → arm' = 0) ∧ ((er = 13 ∧ dn' = true ∧ arm ≠ 0) ∨ (er = 14 ∧ dn' = false ∧ (∃ v, lk ps' nt = some v) ∧ lim < (tot : Int) + (usedL ps : Int)))
structure CpX (w : World) (F M : Nat) (ps : List PF) (lim arm : Int) (nt : ByteArray) (L0 L1 tot : Nat) (W : World) : Prop where
  out : ∃ ps' clock' arm' dn' er, Went w F M ps ps' clock' lim arm' dn' W ∧ CpE ps ps' lim arm arm' nt dn' tot er ∧ (∀ k ∈ foot F M ps', k < w.heap.size ∨ (w.heap.size + 6 ≤ k ∧ k < L0) ∨ L1 + 2 ≤ k) ∧
    Boxed W (w.heap.size + 1) 23 (.int .u64 0) ∧ Boxed W (w.heap.size + 2) 3 (.int .i64 0) ∧ Boxed W (w.heap.size + 3) 25 (.int .i64 er)
theorem CpX.carry {w : World} {F M : Nat} {ps : List PF} {lim arm : Int} {nt : ByteArray} {L0 L1 tot : Nat} {W W' : World} {S : Nat → Prop} (h : CpX w F M ps lim arm nt L0 L1 tot W) (hL : w.heap.size + 6 ≤ L0) (hL1 : L0 ≤ L1)
    (hk : Kept S W W') (hS : ∀ k, S k → L1 ≤ k ∧ k < L1 + 2) : CpX w F M ps lim arm nt L0 L1 tot W' := by
  obtain ⟨ps', c', a', d', er, h1, h2, h3, h4, h5, h6⟩ := h.out
  refine ⟨ps', c', a', d', er, h1.off hk fun k e => ⟨fun hm => ?_, ?_⟩, h2, h3, hk.heap h4 fun e => ?_, hk.heap h5 fun e => ?_, hk.heap h6 fun e => ?_⟩
  · have := h3 k hm; have := hS k e; omega
  · have := hS k e; omega
  · have := hS _ e; omega
  · have := hS _ e; omega
  · have := hS _ e; omega
/-- What copied answers, and leaves. -/
def CopPost (w : World) (F M : Nat) (nm : ByteArray) (ps : List PF) (lim arm : Int) (qs : List PV) (e : Ending) (w' : World) : Prop :=
  ∃ (n s : Nat) (er : Int), e = .returned (.tuple #[.int .u64 (n : Nat), .int .i64 (s : Nat), .int .i64 er]) ∧ ∃ ps' clock' arm' dn', Went w F M ps ps' clock' lim arm' dn' w' ∧
    (CpE ps ps' lim arm arm' (nm ++ dotT) dn' (frLen (cutF qs)) er ∨
     (er = 0 ∧ dn' = false ∧ (arm = 0 → arm' = 0) ∧ ∃ parts, Cut qs parts ∧ n = parts.length ∧ s = frLen parts ∧ lk ps' = (lk ps).put (nm ++ dotT) (some (frsL 0 (parts.map bytesP), (frsL 0 (parts.map bytesP)).length))) ∨
     (er = 13 ∧ dn' = true ∧ arm ≠ 0 ∧ ∀ t, t ≠ nm ++ dotT → lk ps' t = lk ps t))
/-- Three results stored. -/
theorem res3 {W : World} {B1 B2 B3 : Nat} {t1 t2 t3 : TypeId} {u1 u2 u3 : Value} (h1 : Boxed W B1 t1 u1) (h2 : Boxed W B2 t2 u2) (h3 : Boxed W B3 t3 u3) (p12 : ¬ B1 = B2) (p13 : ¬ B1 = B3) (p23 : ¬ B2 = B3) (a b c : Value) :
    Boxed (((W.setCell ⟨B1, 0, none⟩ a).setCell ⟨B2, 0, none⟩ b).setCell ⟨B3, 0, none⟩ c) B1 t1 a ∧ Boxed (((W.setCell ⟨B1, 0, none⟩ a).setCell ⟨B2, 0, none⟩ b).setCell ⟨B3, 0, none⟩ c) B2 t2 b ∧ Boxed (((W.setCell ⟨B1, 0, none⟩ a).setCell ⟨B2, 0, none⟩ b).setCell ⟨B3, 0, none⟩ c) B3 t3 c ∧ Kept (fun k => k = B1 ∨ k = B2 ∨ k = B3) W (((W.setCell ⟨B1, 0, none⟩ a).setCell ⟨B2, 0, none⟩ b).setCell ⟨B3, 0, none⟩ c) := by
  have k1 := kF W B1 0 a
  have r1 := h1.set a
  have q2 := k1.heap h2 (fun e => p12 e.symm)
  have q3 := k1.heap h3 (fun e => p13 e.symm)
  obtain ⟨V1, hV1⟩ : ∃ V1, V1 = W.setCell ⟨B1, 0, none⟩ a := ⟨_, rfl⟩
  rw [← hV1] at k1 r1 q2 q3 ⊢
  have k2 := kF V1 B2 0 b
  have r1' := k2.heap r1 p12
  have r2 := (show Boxed V1 B2 t2 u2 from q2).set b
  have q3' := k2.heap q3 (fun e => p23 e.symm)
  obtain ⟨V2, hV2⟩ : ∃ V2, V2 = V1.setCell ⟨B2, 0, none⟩ b := ⟨_, rfl⟩
  rw [← hV2] at k2 r1' r2 q3' ⊢
  have k3 := kF V2 B3 0 c
  exact ⟨k3.heap r1' p13, k3.heap r2 p23, (show Boxed V2 B3 t3 u3 from q3').set c, ((k1.mono fun _ _ e => .inl e).trans' (k2.mono fun _ _ e => .inr (.inl e))).trans' (k3.mono fun _ _ e => .inr (.inr e))⟩
end Go.Proofs.YtefpigakhhfcaaaDoor
end

/-! compact.Compact, whatever hits the files, and however little room there is. -/
section
set_option linter.unusedVariables false
set_option linter.unusedSimpArgs false
namespace Go.Proofs.YtefpigakhhfcaaaDoor
open Go.RowKit

end Go.Proofs.YtefpigakhhfcaaaDoor
end

/-! couranthelp: Seq over the names, of at most so many. -/
section
set_option linter.unusedVariables false
set_option linter.unusedSimpArgs false
namespace Go.Proofs.YtefpigakhhfcaaaDoor
open Go.RowKit Go.Sort
attribute [local go_sem] Oper.semAt_some

theorem own_weak {w : World} {b b' : Nat} {e : TypeId} {size n : Nat} {v : Value} {xs : List Value} (hb : b' ≤ b) (h : w.ownsRow b e size v n xs) : w.ownsRow b' e size v n xs :=
  ⟨h.1, h.2.imp id fun ⟨g, cap, cur, a1, a2, a3⟩ => ⟨g, cap, cur, a1, Nat.le_trans hb a2, a3⟩⟩
theorem infoStr : (Tryd.prog.info? 9).map (fun i => (i.zero, i.size, i.bytes)) = some (some (.string ⟨#[]⟩), 1, 16) := by kernel_rfl
structure SqI (q : Nat) (w W : World) (B D : Nat) (pre : List (List UInt8)) : Prop where
  b0 : Boxed W B 3 (.int .i64 (q : Nat))
  b1 : Boxed W (B + 1) 113 (.slice none 0 0)
  b2 : Boxed W (B + 2) 4 (.bool false)
  b3 : ∃ v, Boxed W (B + 3) 113 v ∧ W.ownsRow (D + 2) 9 1 v pre.length (pre.map encStr)
  kept : Kept (fun _ => False) w W
theorem SqI.carry {q : Nat} {w W W' : World} {B D : Nat} {pre : List (List UInt8)} (h : SqI q w W B D pre) (hk : Kept (fun k => False ∨ k = D ∨ k = D + 1) W W') (hB : B = w.heap.size) (hD : B + 4 ≤ D) : SqI q w W' B D pre := by
  have no : ∀ k, k < D → ¬ (False ∨ k = D ∨ k = D + 1) := by rintro k hk (h | h | h) <;> first | exact h.elim | omega
  obtain ⟨v, hv, ho⟩ := h.b3
  refine ⟨hk.heap h.b0 (no _ (by omega)), hk.heap h.b1 (no _ (by omega)), hk.heap h.b2 (no _ (by omega)), ⟨v, hk.heap hv (no _ (by omega)), own_kept ho hk fun k e => ?_⟩, h.kept.trans hk fun i hi hm => absurd hm (no i (by omega))⟩
  have := own_ge ho k e
  rintro (h | h | h) <;> first | exact h.elim | omega
end Go.Proofs.YtefpigakhhfcaaaDoor
end

/-! couranthelp: Spoil, In; Start of files that are up. -/
section
set_option linter.unusedVariables false
set_option linter.unusedSimpArgs false
namespace Go.Proofs.YtefpigakhhfcaaaDoor
open Go.RowKit

/-- A block of bytes, whatever they are. -/
def Raw (w : World) (B n : Nat) : Prop := ∃ cur : Array Value, w.heap[B]? = some (.cells cur 5 (0, 0)) ∧ n ≤ cur.size ∧ ∀ j : Nat, j < n → ∃ z : Int, cur[j]? = some (.int .u8 z)
theorem Raw.cell {w : World} {B n : Nat} (h : Raw w B n) (j : Nat) (hj : j < n) : ∃ z : Int, w.cell? ⟨B, j, none⟩ = some (.int .u8 z) := by
  obtain ⟨cur, h1, h2, h3⟩ := h
  obtain ⟨z, hz⟩ := h3 j hj
  exact ⟨z, by simp [World.cell?, h1, hz]⟩
theorem Raw.frozen {w : World} {B n : Nat} (h : Raw w B n) (j : Nat) : w.frozen? ⟨B, j, none⟩ = false := by
  obtain ⟨cur, h1, h2, h3⟩ := h
  simp [World.frozen?, h1]
theorem Raw.set {w : World} {B n : Nat} (h : Raw w B n) (j : Nat) (z : Int) : Raw (w.setCell ⟨B, j, none⟩ (.int .u8 z)) B n := by
  obtain ⟨cur, h1, h2, h3⟩ := h
  refine ⟨cur.setIfInBounds j (.int .u8 z), ?_, by simpa using h2, fun i hi => ?_⟩
  · simp only [World.setCell, Array.getElem?_modify, if_true, h1]; rfl
  · by_cases hij : j = i
    · subst hij
      exact ⟨z, by rw [Array.getElem?_setIfInBounds_self_of_lt (by omega)]⟩
    · obtain ⟨y, hy⟩ := h3 i hi
      exact ⟨y, by rw [Array.getElem?_setIfInBounds_ne hij]; exact hy⟩
theorem Raw.of_own {w : World} {base n g cap : Nat} {xs : List UInt8} (h : w.ownsRow base 5 1 (.slice (some ⟨g, 0, none⟩) n cap) n (xs.map bv)) : Raw w g n := by
  rcases h.2 with ⟨h1, _⟩ | ⟨g', cap', cur, h1, h2, h3, h4, h5, h6, h7⟩
  · cases h1
  · cases h1
    refine ⟨cur, h3, by omega, fun j hj => ?_⟩
    have hl := h.1
    simp at hl
    have hu : (xs.map bv)[j]? = some (bv (xs[j]'(by omega))) := by rw [List.getElem?_map, List.getElem?_eq_getElem (by omega)]; rfl
    rw [← h7, List.getElem?_take_of_lt (by omega)] at hu
    exact ⟨_, by simpa [bv] using hu⟩
end Go.Proofs.YtefpigakhhfcaaaDoor
end

/-! courantlaw23.CompactPlays, plain: the disk of a store, and what bounds it. -/
section
set_option linter.unusedVariables false
set_option linter.unusedSimpArgs false
namespace Go.Proofs.YtefpigakhhfcaaaDoor
open Go.RowKit

def nAb : ByteArray := ⟨#[97, 46, 98]⟩
theorem nAb_full : fullB (nAb ++ dotK) = true := by kernel_rfl
theorem nAbTfull : fullB (nAb ++ dotT) = true := by kernel_rfl
theorem nAbKT : nAb ++ dotK ≠ nAb ++ dotT := by decide
abbrev nabK : ByteArray := nAb ++ dotK
abbrev nabT : ByteArray := nAb ++ dotT
def frs (parts : List (List PV)) : List UInt8 := frsL 0 (parts.map bytesP)
theorem frs_snoc (parts : List (List PV)) (u : List PV) : frs (parts ++ [u]) = frs parts ++ frameB parts.length (bytesP u) := by
  unfold frs
  rw [List.map_append, List.map_cons, List.map_nil, frsL_snoc, Nat.zero_add, List.length_map]
/-- A store's disk: its frames, and what is behind them. -/
structure DK (d : Disk) (parts : List (List PV)) (t : List UInt8) (st : Bool) : Prop where
  only : ∀ s, s ≠ nabK → s ≠ nabT → d s = none
  k : (d nabK = none ∧ parts = [] ∧ t = []) ∨ ∃ sf, d nabK = some (frs parts ++ t, sf) ∧ (frs parts).length ≤ sf ∧ (st = true → sf = (frs parts ++ t).length)
/-- What bounds it. -/
structure Bd (i : Nat) (parts : List (List PV)) (ms : List PV) : Prop where
  pl : parts.length ≤ 50 * i
  fl : parts.flatten.length ≤ 50 * i
  by_ : (frs parts).length ≤ 3200 * i
  fit : ∀ l ∈ parts, l.length ≤ 10000 ∧ (bytesP l).length ≤ 32768 ∧ ∀ p ∈ l, p.key.size ≤ 32768 ∧ p.b.length ≤ 32768
  ml : ms.length ≤ 50 * i
  mw : ∀ p ∈ ms, wt p ≤ 3000
  msum : sumP ms ≤ 3100 * i
  fold : foldP parts = ms.map PV.core
theorem Bd.mono {i j : Nat} {parts : List (List PV)} {ms : List PV} (h : Bd i parts ms) (hij : i ≤ j) : Bd j parts ms :=
  ⟨by have := h.pl; omega, by have := h.fl; omega, by have := h.by_; omega, h.fit, by have := h.ml; omega, h.mw, by have := h.msum; omega, h.fold⟩
theorem Bd.zero : Bd 0 [] [] := ⟨by simp, by simp, by simp [frs, frsL], by simp, by simp, by simp, by simp [sumP], rfl⟩
/-- What is behind the frames: nothing, or some of the frame that was under way. -/
def Tl (i : Nat) (parts : List (List PV)) (t : List UInt8) (un : Bool) (hs : List PV) : Prop :=
  t = [] ∨ ∃ u m, un = true ∧ t = (frameB parts.length (bytesP u)).take m ∧ Bd i (parts ++ [u]) hs
theorem Tl.mono {i j : Nat} {parts : List (List PV)} {t : List UInt8} {un : Bool} {hs : List PV} (h : Tl i parts t un hs) (hij : i ≤ j) : Tl j parts t un hs :=
  h.imp id fun ⟨u, m, h1, h2, h3⟩ => ⟨u, m, h1, h2, h3.mono hij⟩
theorem Tl.take {i : Nat} {parts : List (List PV)} {t : List UInt8} {un : Bool} {hs : List PV} (h : Tl i parts t un hs) (k : Nat) : Tl i parts (t.take k) un hs := by
  rcases h with rfl | ⟨u, m, h1, rfl, h3⟩
  · exact .inl (by simp)
  · exact .inr ⟨u, min k m, h1, by rw [List.take_take], h3⟩
/-- A fall. -/
theorem DK.fell {d d' : Disk} {parts : List (List PV)} {t : List UInt8} {st : Bool} (h : DK d parts t st) (hf : ∀ s, FellV (d s) (d' s)) : ∃ k, DK d' parts (t.take k) true := by
  have ho : ∀ s, s ≠ nabK → s ≠ nabT → d' s = none := fun s h1 h2 => by
    have := hf s
    rw [h.only s h1 h2] at this
    exact this.of_none
  rcases h.k with ⟨h1, h2, h3⟩ | ⟨sf, h1, h2, -⟩
  · have := hf nabK
    rw [h1] at this
    exact ⟨0, ho, .inl ⟨this.of_none, h2, by simp⟩⟩
  · have := hf nabK
    rw [h1] at this
    obtain ⟨k, h3, h4, h5⟩ := this.of_some
    have e : (frs parts ++ t).take k = frs parts ++ t.take (k - (frs parts).length) := by rw [List.take_append, List.take_of_length_le (by omega)]
    refine ⟨k - (frs parts).length, ho, .inr ⟨k, by rw [h5, e], by omega, fun _ => ?_⟩⟩
    rw [← e, List.length_take]; omega
/-- What Open reads of it. -/
theorem DK.kis {d : Disk} {i : Nat} {parts : List (List PV)} {t : List UInt8} {un : Bool} {ms hs : List PV} (h : DK d parts t true) (hb : Bd i parts ms) (ht : Tl i parts t un hs) (hi : i ≤ 60) :
    ∃ parts' t', KIs (d nabK) parts' t' ∧ ((parts' = parts) ∨ (un = true ∧ Bd i parts' hs)) ∧ DK (openD d nabK nabT parts') parts' [] true ∧ (openD d nabK nabT parts') nabT = none ∧ (openD d nabK nabT parts' nabK = none ∧ parts' = [] ∨ openD d nabK nabT parts' nabK = some (frs parts', (frs parts').length)) := by
  have key : ∀ (parts' : List (List PV)) (t' : List UInt8), KIs (d nabK) parts' t' → (∀ sf, d nabK = some (frs parts' ++ t', sf) → (frs parts').length ≤ sf) → DK (openD d nabK nabT parts') parts' [] true ∧ (openD d nabK nabT parts') nabT = none ∧ (openD d nabK nabT parts' nabK = none ∧ parts' = [] ∨ openD d nabK nabT parts' nabK = some (frs parts', (frs parts').length)) := by
    intro parts' t' hk hsf
    have ho : ∀ x : Option FV, ∀ s, s ≠ nabK → s ≠ nabT → ((d.put nabT none).put nabK x) s = none := fun x s h1 h2 => by
      rw [Disk.put_ne _ _ h1, Disk.put_ne _ _ h2]; exact h.only s h1 h2
    rcases hk.is with ⟨h1, h2, h3⟩ | ⟨sf, h1⟩
    · rw [openD_none h1]
      have e1 : (d.put nabT none) nabK = none := by rw [Disk.put_ne _ _ nAbKT]; exact h1
      refine ⟨⟨fun s g1 g2 => by rw [Disk.put_ne _ _ g2]; exact h.only s g1 g2, .inl ⟨e1, h2, rfl⟩⟩, Disk.put_same _ _ _, .inl ⟨e1, h2⟩⟩
    · rw [openD_some h1]
      have h4 := hsf sf h1
      have e1 : min sf (frsL 0 (parts'.map bytesP)).length = (frs parts').length := Nat.min_eq_right h4
      simp only [e1]
      refine ⟨⟨fun s g1 g2 => ho _ s g1 g2, .inr ⟨_, ?_, Nat.le_refl _, fun _ => by rw [List.append_nil]⟩⟩, ?_, .inr (Disk.put_same _ _ _)⟩
      · rw [Disk.put_same, List.append_nil]; rfl
      · rw [Disk.put_ne _ _ (fun e => nAbKT e.symm)]; exact Disk.put_same _ _ _
  have kfit : ∀ (parts' : List (List PV)) (t' : List UInt8) (ns : List PV), Bd i parts' ns → ((d nabK = none ∧ parts' = [] ∧ t' = []) ∨ ∃ sf, d nabK = some (frs parts' ++ t', sf)) → (∃ (y : List UInt8) (m : Nat), y.length ≤ 32768 ∧ m < (frameB parts'.length y).length ∧ t' = (frameB parts'.length y).take m) → KIs (d nabK) parts' t' := fun parts' t' ns h1 h2 h3 =>
    ⟨h2, h3, h1.fit, by have := h1.pl; omega, by have := h1.fl; omega⟩
  have knil : ∀ n, ∃ (y : List UInt8) (m : Nat), y.length ≤ 32768 ∧ m < (frameB n y).length ∧ ([] : List UInt8) = (frameB n y).take m := fun n => ⟨[], 0, by simp, by rw [frameB_len]; simp, rfl⟩
  rcases ht with rfl | ⟨u, m, hun, rfl, hbu⟩
  · have hk : KIs (d nabK) parts [] := kfit parts [] ms hb (h.k.imp id fun ⟨sf, h1, _, _⟩ => ⟨sf, h1⟩) (knil _)
    refine ⟨parts, [], hk, .inl rfl, key parts [] hk fun sf h1 => ?_⟩
    rcases h.k with ⟨h2, _⟩ | ⟨sf', h2, h3, _⟩
    · rw [h2] at h1; cases h1
    · rw [h2] at h1; injection h1 with h1; injection h1 with _ h1; omega
  · by_cases hm : m < (frameB parts.length (bytesP u)).length
    · have hk : KIs (d nabK) parts ((frameB parts.length (bytesP u)).take m) := kfit parts _ ms hb (h.k.imp id fun ⟨sf, h1, _, _⟩ => ⟨sf, h1⟩) ⟨bytesP u, m, (hbu.fit u (by simp)).2.1, hm, rfl⟩
      refine ⟨parts, _, hk, .inl rfl, key parts _ hk fun sf h1 => ?_⟩
      rcases h.k with ⟨h2, _⟩ | ⟨sf', h2, h3, _⟩
      · rw [h2] at h1; cases h1
      · rw [h2] at h1; injection h1 with h1; injection h1 with _ h1; omega
    · rw [List.take_of_length_le (by omega)] at h
      rcases h.k with ⟨h2, h3, h4⟩ | ⟨sf, h2, h3, h4⟩
      · have := congrArg List.length h4
        rw [frameB_len] at this
        simp at this
      · rw [← frs_snoc] at h2 h4
        have hk : KIs (d nabK) (parts ++ [u]) [] := kfit (parts ++ [u]) [] hs hbu (.inr ⟨sf, by rw [List.append_nil]; exact h2⟩) (knil _)
        refine ⟨parts ++ [u], [], hk, .inr ⟨hun, hbu⟩, key (parts ++ [u]) [] hk fun sf' h5 => ?_⟩
        rw [List.append_nil, h2] at h5
        injection h5 with h5
        injection h5 with _ h5
        have := h4 rfl
        omega
end Go.Proofs.YtefpigakhhfcaaaDoor
end
