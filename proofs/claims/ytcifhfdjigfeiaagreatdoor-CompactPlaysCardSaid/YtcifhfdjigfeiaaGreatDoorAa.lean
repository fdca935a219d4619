import Derived.Test.YtcifhfdjigfeiaaGreatDoorZw
import Derived.Test.YtcifhfdjigfeiaaGreatDoorZn
/-! How many bytes the files have, when one is another one. -/
section
set_option linter.unusedVariables false
set_option linter.unusedSimpArgs false
namespace Go.Proofs.YtcifhfdjigfeiaaGreatDoor
open Go.RowKit

theorem sum_put' {S : List ByteArray} {d : Disk} {s : ByteArray} {x : Option FV} (hS : S.Nodup) (hs : s ∈ S) : (S.map fun t => szV (d.put s x t)).sum + szV (d s) = (S.map fun t => szV (d t)).sum + szV x := by
  induction S with
  | nil => cases hs
  | cons a S ih =>
    rw [List.nodup_cons] at hS
    simp only [List.map_cons, List.sum_cons]
    by_cases hx : s = a
    · subst hx
      rw [Disk.put_same]
      have : (S.map fun t => szV (d.put s x t)) = (S.map fun t => szV (d t)) := by
        apply List.map_congr_left
        intro t ht
        rw [Disk.put_ne _ _ (fun e => hS.1 (by rw [← e]; exact ht))]
      rw [this]; omega
    · have h1 := ih hS.2 ((List.mem_cons.1 hs).resolve_left hx)
      rw [Disk.put_ne _ _ fun e => hx e.symm]; omega
theorem used_put {ps ps' : List PF} {s : ByteArray} {x : Option FV} (hn : (ps.map PF.name).Nodup) (hn' : (ps'.map PF.name).Nodup) (h : lk ps' = (lk ps).put s x) : usedL ps' + szV (lk ps s) = usedL ps + szV x := by
  obtain ⟨S, hS, hs, hp⟩ : ∃ S : List ByteArray, S.Nodup ∧ s ∈ S ∧ ∀ p ∈ ps, p.name ∈ S := by
    by_cases e : s ∈ ps.map PF.name
    · exact ⟨ps.map PF.name, hn, e, fun p hp => List.mem_map_of_mem hp⟩
    · exact ⟨s :: ps.map PF.name, List.nodup_cons.2 ⟨e, hn⟩, List.mem_cons_self, fun p hp => List.mem_cons_of_mem _ (List.mem_map_of_mem hp)⟩
  have hp' : ∀ p ∈ ps', p.name ∈ S := fun p hp2 => by
    by_cases e : p.name = s
    · rw [e]; exact hs
    · have h1 := lk_mem hp2
      rw [h, Disk.put_ne _ _ e] at h1
      cases h2 : lk ps p.name with
      | none => exact absurd h2 h1
      | some v =>
        obtain ⟨l1, q, l2, rfl, h3, -⟩ := lk_split h2
        rw [← h3]; exact hp q (by simp)
  rw [used_sum hS hn hp, used_sum hS hn' hp', h]
  exact sum_put' hS hs
theorem used_same {ps ps' : List PF} (hn : (ps.map PF.name).Nodup) (hn' : (ps'.map PF.name).Nodup) (h : lk ps' = lk ps) : usedL ps' = usedL ps := by
  have := used_put (s := ⟨#[]⟩) (x := lk ps ⟨#[]⟩) hn hn' (by rw [h, put_id rfl])
  omega
theorem pair_D {ps : List PF} {nk nt : ByteArray} (hne : nk ≠ nt) (hn : (ps.map PF.name).Nodup) (h : ∀ s, s ≠ nk → s ≠ nt → lk ps s = none) : (∀ p ∈ ps, p.name = nk ∨ p.name = nt) ∧ ps.length ≤ 2 ∧ usedL ps = szV (lk ps nk) + szV (lk ps nt) := by
  have h1 : ∀ p ∈ ps, p.name = nk ∨ p.name = nt := fun p hp => by
    by_cases e : p.name = nk
    · exact .inl e
    · by_cases e2 : p.name = nt
      · exact .inr e2
      · exact absurd (h _ e e2) (lk_mem hp)
  refine ⟨h1, ?_, ?_⟩
  · have := len_sub (S := [nk, nt]) hn fun x hx => by
      obtain ⟨p, hp, rfl⟩ := List.mem_map.1 hx
      have := h1 p hp
      simpa using this
    simpa using this
  · have := used_sum (S := [nk, nt]) (by simp [hne]) hn fun p hp => by have := h1 p hp; simpa using this
    simpa using this
end Go.Proofs.YtcifhfdjigfeiaaGreatDoor
end

/-! compact.copied, whatever hits the files, and however little room there is. -/
section
set_option linter.unusedVariables false
set_option linter.unusedSimpArgs false
namespace Go.Proofs.YtcifhfdjigfeiaaGreatDoor
open Go.RowKit Go.Sort
attribute [local go_sem] Oper.semAt_some

/-- What copied's loop holds, whatever comes. -/
structure CpJ (w : World) (F M : Nat) (ps : List PF) (lim arm : Int) (nt : ByteArray) (T L0 L1 : Nat) (W2 : World) (l : List (List UInt8)) (W : World) : Prop where
  went : ∃ ps' clock' arm', Went w F M ps ps' clock' lim arm' false W ∧ lk ps' = (lk ps).put nt (some (frsL 0 l, 0)) ∧ (arm = 0 → arm' = 0) ∧ ∀ k ∈ foot F M ps', k < w.heap.size ∨ (w.heap.size + 6 ≤ k ∧ k < L0) ∨ L1 + 2 ≤ k
  cb : CB w.heap.size T W l.length (frsL 0 l).length
  keep : Kept (fun k => k < L0 ∨ L1 ≤ k) W2 W
/-- How copied ends early. -/
def CpE (ps ps' : List PF) (lim arm arm' : Int) (nt : ByteArray) (dn' : Bool) (tot : Nat) (er : Int) : Prop :=
  (∀ t, t ≠ nt → lk ps' t = lk ps t) ∧ (arm = 0 → arm' = 0) ∧ ((er = 13 ∧ dn' = true ∧ arm ≠ 0) ∨ (er = 14 ∧ dn' = false ∧ (∃ v, lk ps' nt = some v) ∧ lim < (tot : Int) + (usedL ps : Int)))
structure CpX (w : World) (F M : Nat) (ps : List PF) (lim arm : Int) (nt : ByteArray) (L0 L1 tot : Nat) (W : World) : Prop where
  out : ∃ ps' clock' arm' dn' er, Went w F M ps ps' clock' lim arm' dn' W ∧ CpE ps ps' lim arm arm' nt dn' tot er ∧ (∀ k ∈ foot F M ps', k < w.heap.size ∨ (w.heap.size + 6 ≤ k ∧ k < L0) ∨ L1 + 2 ≤ k) ∧
    Boxed W (w.heap.size + 1) 61 (.int .u64 0) ∧ Boxed W (w.heap.size + 2) 3 (.int .i64 0) ∧ Boxed W (w.heap.size + 3) 26 (.int .i64 er)
theorem CpJ.carry {w : World} {F M : Nat} {ps : List PF} {lim arm : Int} {nt : ByteArray} {T L0 L1 : Nat} {W2 W W' : World} {l : List (List UInt8)} {S : Nat → Prop} (h : CpJ w F M ps lim arm nt T L0 L1 W2 l W) (hL : w.heap.size + 6 ≤ L0) (hL1 : L0 ≤ L1)
    (hk : Kept S W W') (hS : ∀ k, S k → L1 ≤ k ∧ k < L1 + 2) : CpJ w F M ps lim arm nt T L0 L1 W2 l W' := by
  obtain ⟨⟨ps', c', a', h1, h2, h3, h6⟩, h4, h5⟩ := h
  refine ⟨⟨ps', c', a', h1.off hk fun k e => ⟨fun hm => ?_, ?_⟩, h2, h3, h6⟩, h4.kept hk fun k e => ?_, h5.trans' (hk.mono fun k _ e => .inr (hS k e).1)⟩
  · have := h6 k hm; have := hS k e; omega
  · have := hS k e; omega
  · have := hS k e; omega
theorem CpX.carry {w : World} {F M : Nat} {ps : List PF} {lim arm : Int} {nt : ByteArray} {L0 L1 tot : Nat} {W W' : World} {S : Nat → Prop} (h : CpX w F M ps lim arm nt L0 L1 tot W) (hL : w.heap.size + 6 ≤ L0) (hL1 : L0 ≤ L1)
    (hk : Kept S W W') (hS : ∀ k, S k → L1 ≤ k ∧ k < L1 + 2) : CpX w F M ps lim arm nt L0 L1 tot W' := by
  obtain ⟨ps', c', a', d', er, h1, h2, h3, h4, h5, h6⟩ := h.out
  refine ⟨ps', c', a', d', er, h1.off hk fun k e => ⟨fun hm => ?_, ?_⟩, h2, h3, hk.heap h4 fun e => ?_, hk.heap h5 fun e => ?_, hk.heap h6 fun e => ?_⟩
  · have := h3 k hm; have := hS k e; omega
  · have := hS k e; omega
  · have := hS _ e; omega
  · have := hS _ e; omega
  · have := hS _ e; omega
/-- A round of copied. -/
theorem cpj_round {w W W4 w6 w7 : World} {F M : Nat} {ps ps5 ps7 : List PF} {clk5 clk7 : Nat} {lim arm arm5 arm7 : Int} {nt : ByteArray} {T L0 L1 B4 B5 n s n6 : Nat} {l : List (List UInt8)} {x : List UInt8} (hL : w.heap.size + 6 ≤ L0) (hL1 : L0 ≤ L1) (hsz : L1 + 2 ≤ W.heap.size)
    (hw5 : Went w F M ps ps5 clk5 lim arm5 false W) (hft5 : ∀ k ∈ foot F M ps5, k < w.heap.size ∨ (w.heap.size + 6 ≤ k ∧ k < L0) ∨ L1 + 2 ≤ k) (hcb5 : CB w.heap.size T W n s) (hkeep5 : Kept (fun k => k < L0 ∨ L1 ≤ k) W4 W)
    (hk6 : Kept (fun _ => False) W w6) (hw7 : Went w6 F M ps5 ps7 clk7 lim arm7 false w7) (harm7 : arm = 0 → arm7 = 0) (two7 : lk ps7 = (lk ps).put nt (some (frsL 0 l ++ frameB n x, 0))) (hB4 : B4 = w.heap.size + 4) (hB5 : B5 = w.heap.size + 5) (hn : n = l.length) (hs : s = (frsL 0 l).length) (hn6 : n6 = (frameB n x).length) :
    (W.heap.size ≤ ((w7.setCell ⟨B4, 0, none⟩ (.int .u64 ((n : Int) + 1))).setCell ⟨B5, 0, none⟩ (.int .i64 ((s : Int) + (n6 : Int)))).heap.size ∧ ∀ k, (L0 ≤ k ∧ k < L1 + 2) → ((w7.setCell ⟨B4, 0, none⟩ (.int .u64 ((n : Int) + 1))).setCell ⟨B5, 0, none⟩ (.int .i64 ((s : Int) + (n6 : Int)))).heap[k]? = W.heap[k]?) ∧
      CpJ w F M ps lim arm nt T L0 L1 W4 (l ++ [x]) ((w7.setCell ⟨B4, 0, none⟩ (.int .u64 ((n : Int) + 1))).setCell ⟨B5, 0, none⟩ (.int .i64 ((s : Int) + (n6 : Int)))) := by
  have hkf : Kept (fun k => k ∈ foot F M ps5) W w7 := (hk6.mono fun _ _ h => h.elim).trans' hw7.kept
  have hk4 : Kept (fun k => k = B4 ∨ k = B5) w7 (w7.setCell ⟨B4, 0, none⟩ (.int .u64 ((n : Int) + 1))) := (kF w7 B4 0 _).mono fun _ _ e => .inl e
  have hk5 : Kept (fun k => k = B4 ∨ k = B5) (w7.setCell ⟨B4, 0, none⟩ (.int .u64 ((n : Int) + 1))) ((w7.setCell ⟨B4, 0, none⟩ (.int .u64 ((n : Int) + 1))).setCell ⟨B5, 0, none⟩ (.int .i64 ((s : Int) + (n6 : Int)))) := (kF _ B5 0 _).mono fun _ _ e => .inr e
  have hcb7 : CB w.heap.size T w7 n s := hcb5.kept hkf fun k e => by have := hft5 k e; omega
  have b4 : Boxed ((w7.setCell ⟨B4, 0, none⟩ (.int .u64 ((n : Int) + 1))).setCell ⟨B5, 0, none⟩ (.int .i64 ((s : Int) + (n6 : Int)))) (w.heap.size + 4) 61 (.int .u64 ((n : Int) + 1)) := by
    have h1 : Boxed (w7.setCell ⟨B4, 0, none⟩ (.int .u64 ((n : Int) + 1))) (w.heap.size + 4) 61 (.int .u64 ((n : Int) + 1)) := by rw [hB4]; exact hcb7.b4.set _
    exact (kF (w7.setCell ⟨B4, 0, none⟩ (.int .u64 ((n : Int) + 1))) B5 0 (.int .i64 ((s : Int) + (n6 : Int)))).heap h1 (by omega)
  have b5 : Boxed ((w7.setCell ⟨B4, 0, none⟩ (.int .u64 ((n : Int) + 1))).setCell ⟨B5, 0, none⟩ (.int .i64 ((s : Int) + (n6 : Int)))) (w.heap.size + 5) 3 (.int .i64 ((s : Int) + (n6 : Int))) := by
    have h1 : Boxed (w7.setCell ⟨B4, 0, none⟩ (.int .u64 ((n : Int) + 1))) B5 3 (.int .i64 (s : Int)) := by
      have := (kF w7 B4 0 (.int .u64 ((n : Int) + 1))).heap hcb7.b5 (by omega)
      rw [hB5]; exact this
    have h2 := h1.set (.int .i64 ((s : Int) + (n6 : Int)))
    rw [hB5] at h2 ⊢
    exact h2
  obtain ⟨W', hW'⟩ : ∃ W', W' = (w7.setCell ⟨B4, 0, none⟩ (.int .u64 ((n : Int) + 1))).setCell ⟨B5, 0, none⟩ (.int .i64 ((s : Int) + (n6 : Int))) := ⟨_, rfl⟩
  have hkb : Kept (fun k => k = B4 ∨ k = B5) w7 W' := by rw [hW']; exact hk4.trans' hk5
  rw [← hW'] at b4 b5 ⊢
  clear hk4 hk5 hW'
  have hkb' : CB w.heap.size T W' (n + 1) (s + n6) :=
    ⟨hkb.heap hcb7.b0 (by omega), hkb.heap hcb7.b1 (by omega), hkb.heap hcb7.b2 (by omega), hkb.heap hcb7.b3 (by omega), by rw [show ((n + 1 : Nat) : Int) = (n : Int) + 1 by omega]; exact b4, by rw [show ((s + n6 : Nat) : Int) = (s : Int) + (n6 : Int) by omega]; exact b5⟩
  have hs6 := hk6.size
  have hs7 := hkf.size
  have hft7 : ∀ k ∈ foot F M ps7, k < w.heap.size ∨ (w.heap.size + 6 ≤ k ∧ k < L0) ∨ L1 + 2 ≤ k := fun k hk => by
    rcases hw7.feet k hk with h | h
    · exact hft5 k h
    · omega
  refine ⟨⟨by have := hkb.size; omega, fun k hk => ?_⟩, ⟨ps7, clk7, arm7, (hw5.trans (Went.pre hk6 hw7)).off hkb fun k e => ⟨fun hm => ?_, ?_⟩, ?_, harm7, hft7⟩, ?_, ?_⟩
  · rw [hkb.block k (by omega) (by omega)]
    exact hkf.block k (by omega) fun hm => by have := hft5 k hm; omega
  · have := hft7 k hm; omega
  · omega
  · rw [frsL_snoc, Nat.zero_add, ← hn]; exact two7
  · rw [List.length_append, List.length_singleton, frsL_snoc, List.length_append, Nat.zero_add, ← hn, ← hn6, ← hs]; exact hkb'
  · exact (hkeep5.trans' (hkf.mono fun k _ hm => by have := hft5 k hm; omega)).trans' (hkb.mono fun k _ e => by omega)
/-- What copied answers, and leaves. -/
def CopPost (w : World) (F M : Nat) (nm : ByteArray) (ps : List PF) (lim arm : Int) (qs : List PV) (e : Ending) (w' : World) : Prop :=
  ∃ (n s : Nat) (er : Int), e = .returned (.tuple #[.int .u64 (n : Nat), .int .i64 (s : Nat), .int .i64 er]) ∧ ∃ ps' clock' arm' dn', Went w F M ps ps' clock' lim arm' dn' w' ∧
    (CpE ps ps' lim arm arm' (nm ++ dotT) dn' (frLen (cutF qs)) er ∨
     (er = 0 ∧ dn' = false ∧ (arm = 0 → arm' = 0) ∧ ∃ parts, Cut qs parts ∧ n = parts.length ∧ s = frLen parts ∧ lk ps' = (lk ps).put (nm ++ dotT) (some (frsL 0 (parts.map bytesP), (frsL 0 (parts.map bytesP)).length))) ∨
     (er = 13 ∧ dn' = true ∧ arm ≠ 0 ∧ ∀ t, t ≠ nm ++ dotT → lk ps' t = lk ps t))
/-- Three results stored. -/
theorem res3 {W : World} {B1 B2 B3 : Nat} {t1 t2 t3 : TypeId} {u1 u2 u3 : Value} (h1 : Boxed W B1 t1 u1) (h2 : Boxed W B2 t2 u2) (h3 : Boxed W B3 t3 u3) (p12 : ¬ B1 = B2) (p13 : ¬ B1 = B3) (p23 : ¬ B2 = B3) (a b c : Value) :
    Boxed (((W.setCell ⟨B1, 0, none⟩ a).setCell ⟨B2, 0, none⟩ b).setCell ⟨B3, 0, none⟩ c) B1 t1 a ∧ Boxed (((W.setCell ⟨B1, 0, none⟩ a).setCell ⟨B2, 0, none⟩ b).setCell ⟨B3, 0, none⟩ c) B2 t2 b ∧ Boxed (((W.setCell ⟨B1, 0, none⟩ a).setCell ⟨B2, 0, none⟩ b).setCell ⟨B3, 0, none⟩ c) B3 t3 c ∧ Kept (fun k => k = B1 ∨ k = B2 ∨ k = B3) W (((W.setCell ⟨B1, 0, none⟩ a).setCell ⟨B2, 0, none⟩ b).setCell ⟨B3, 0, none⟩ c) := by
  have k1 := kF W B1 0 a
  have r1 := h1.set a
  have q2 := k1.heap h2 (fun e => p12 e.symm)
  have q3 := k1.heap h3 (fun e => p13 e.symm)
  obtain ⟨V1, hV1⟩ : ∃ V1, V1 = W.setCell ⟨B1, 0, none⟩ a := ⟨_, rfl⟩
  rw [← hV1] at k1 r1 q2 q3 ⊢
  have k2 := kF V1 B2 0 b
  have r1' := k2.heap r1 p12
  have r2 := (show Boxed V1 B2 t2 u2 from q2).set b
  have q3' := k2.heap q3 (fun e => p23 e.symm)
  obtain ⟨V2, hV2⟩ : ∃ V2, V2 = V1.setCell ⟨B2, 0, none⟩ b := ⟨_, rfl⟩
  rw [← hV2] at k2 r1' r2 q3' ⊢
  have k3 := kF V2 B3 0 c
  exact ⟨k3.heap r1' p13, k3.heap r2 p23, (show Boxed V2 B3 t3 u3 from q3').set c, ((k1.mono fun _ _ e => .inl e).trans' (k2.mono fun _ _ e => .inr (.inl e))).trans' (k3.mono fun _ _ e => .inr (.inr e))⟩
/-- copied ends early: its results. -/
theorem cpx_end {w w7 : World} {F M : Nat} {ps ps7 : List PF} {clk7 : Nat} {lim arm arm7 : Int} {dn7 : Bool} {nt : ByteArray} {T L0 L1 tot n s B1 B2 B3 : Nat} {er : Int} (hL : w.heap.size + 6 ≤ L0) (hL1 : L0 ≤ L1) (hw : Went w F M ps ps7 clk7 lim arm7 dn7 w7) (hft7 : ∀ k ∈ foot F M ps7, k < w.heap.size ∨ (w.heap.size + 6 ≤ k ∧ k < L0) ∨ L1 + 2 ≤ k) (hE : CpE ps ps7 lim arm arm7 nt dn7 tot er) (hcb : CB w.heap.size T w7 n s) (h1 : B1 = w.heap.size + 1) (h2 : B2 = w.heap.size + 2) (h3 : B3 = w.heap.size + 3) :
    CpX w F M ps lim arm nt L0 L1 tot (((w7.setCell ⟨B1, 0, none⟩ (.int .u64 0)).setCell ⟨B2, 0, none⟩ (.int .i64 0)).setCell ⟨B3, 0, none⟩ (.int .i64 er)) ∧ Kept (fun k => w.heap.size ≤ k ∧ k < w.heap.size + 6) w7 (((w7.setCell ⟨B1, 0, none⟩ (.int .u64 0)).setCell ⟨B2, 0, none⟩ (.int .i64 0)).setCell ⟨B3, 0, none⟩ (.int .i64 er)) := by
  obtain ⟨s1, s2, s3, sk⟩ := res3 (W := w7) (B1 := B1) (B2 := B2) (B3 := B3) (by rw [h1]; exact hcb.b1) (by rw [h2]; exact hcb.b2) (by rw [h3]; exact hcb.b3) (by omega) (by omega) (by omega) (.int .u64 0) (.int .i64 0) (.int .i64 er)
  refine ⟨⟨ps7, clk7, arm7, dn7, er, hw.off sk fun k e => ⟨fun hm => ?_, by omega⟩, hE, hft7, by rw [← h1]; exact s1, by rw [← h2]; exact s2, by rw [← h3]; exact s3⟩, sk.mono fun k _ e => by omega⟩
  have := hft7 k hm
  omega
set_option maxRecDepth 100000 in
set_option maxHeartbeats 8000000 in
theorem copied_D (w : World) (T F M : Nat) (nm : ByteArray) (Av : Option Addr) (cv : Nat) (qs : List PV) (next size : Nat) (ps : List PF) (clock : Nat) (lim arm : Int)
    (hsb : SB w T F nm (.slice Av qs.length cv) next size false) (hf : FilesAt w F M ps clock lim arm false) (hT : T ∉ foot F M ps) (hl : qs.length ≤ 8000) (hcv : qs.length ≤ cv) (hA : Av = none → cv = 0) (hat : ∀ W, Kept (fun k => k ∈ foot F M ps) w W → PsAt W Av qs) (hw : ∀ q ∈ qs, wt q ≤ 3000)
    (hnm : nm.size ≤ 1000000) (hfu : fullB (nm ++ dotT) = true) (hnt : lk ps (nm ++ dotT) = none) (hu : usedL ps + frLen (cutF qs) ≤ 4194304) :
    Calls Tryz.prog 38 #[.pointer (some ⟨T, 0, none⟩)] w (CopPost w F M nm ps lim arm qs) := by
  refine calls_of_marks Tryz.func38 rfl ?_
  simp only [Tryz.ntmps38, List.size_toArray, List.length_cons, List.length_nil, Nat.reduceAdd, Nat.reduceSub, Array.replicate_succ, Array.replicate_zero, List.push_toArray, List.append_toArray, List.nil_append, List.cons_append]
  have HSB := Lib.hid hsb
  have HF := Lib.hid hf
  have HT := Lib.hid hT
  have HA := Lib.hid hA
  have Hat := Lib.hid hat
  have Hw := Lib.hid hw
  have HNt := Lib.hid hnt
  have HU := Lib.hid hu
  have hs2 : nm.size + 2 ≤ 9223372036854775807 := by omega
  have hs3 : ¬ 9223372036854775807 < nm.size + 2 := by omega
  have HT2 : Hid (T < w.heap.size) := Lib.hid (Array.getElem?_eq_some_iff.1 (show w.heap[T]? = _ from hsb)).1
  clear hsb hf hT hA hat hw hnt hu
  go_upto_region 2 with fail
  have HCB := Lib.hid (CB.new w T)
  have HK1 := Lib.hid (cbW_kept w T)
  have HZ1 := Lib.hid (cbW_size w T)
  obtain ⟨W1, hW1⟩ : ∃ W1, W1 = cbW w T := ⟨_, rfl⟩
  rw [← hW1] at HCB HK1 HZ1
  unfold cbW at hW1
  rw [← hW1]
  obtain ⟨B5, hB5⟩ : ∃ B5, B5 = w.heap.size + 1 + 1 + 1 + 1 + 1 := ⟨_, rfl⟩
  rw [← hB5]
  obtain ⟨B4, hB4⟩ : ∃ B4, B4 = w.heap.size + 1 + 1 + 1 + 1 := ⟨_, rfl⟩
  rw [← hB4]
  obtain ⟨B3, hB3⟩ : ∃ B3, B3 = w.heap.size + 1 + 1 + 1 := ⟨_, rfl⟩
  rw [← hB3]
  obtain ⟨B2, hB2⟩ : ∃ B2, B2 = w.heap.size + 1 + 1 := ⟨_, rfl⟩
  rw [← hB2]
  obtain ⟨B1, hB1⟩ : ∃ B1, B1 = w.heap.size + 1 := ⟨_, rfl⟩
  rw [← hB1]
  obtain ⟨B0, hB0⟩ : ∃ B0, B0 = w.heap.size := ⟨_, rfl⟩
  rw [← hB0]
  have HB0 := Lib.hid hB0
  have HB1 := Lib.hid hB1
  have HB2 := Lib.hid hB2
  have HB3 := Lib.hid hB3
  have HB4 := Lib.hid hB4
  have HB5 := Lib.hid hB5
  have HF1 := Lib.hid (HF.out.kept HK1.out.drew (by simp))
  have x0 : W1.cell? ⟨B0, 0, none⟩ = some (.pointer (some ⟨T, 0, none⟩)) := by rw [HB0.out]; exact HCB.out.b0.cell
  have x1 := (HSB.out.kept' HK1.out).c0
  have x2 := (HSB.out.kept' HK1.out).c1
  clear hW1 hB0 hB1 hB2 hB3 hB4 hB5
  have HAp : Hid (Calls Tryz.prog 44 #[.pointer (some ⟨F, 0, none⟩), .string (nm ++ ⟨#[46, 116]⟩), .slice none 0 0] W1.drew (DPost W1.drew F M ps (hitE arm) lim (decA arm) (decide (arm = 1)) ((lk ps).put (nm ++ dotT) (some ([], 0))))) := Lib.hid (by
    have h1 := append_D (nm ++ dotT) none 0 0 [] HF1.out (by rw [ByteArray.size_append, show dotT.size = 2 from rfl]; omega) hfu (by have := HU.out; omega) (Bs.nil _ _) rfl (fun _ => rfl) (.inl rfl) (fun ad e => by cases e)
    rw [HNt.out] at h1
    exact h1)
  have g1 := HCB.out.b1.cell
  by_cases ha1 : arm = 1
  · rw [show hitE arm = 13 by rw [hitE, if_pos ha1], decide_eq_true ha1] at HAp
    have Ha1 := Lib.hid ha1
    clear ha1 g1
    go_region_held3 (fun W => W.cell? ⟨B0, 0, none⟩ = some (.pointer (some ⟨T, 0, none⟩)) ∧ W.cell? ⟨T, 0, none⟩ = some (.pointer (some ⟨F, 0, none⟩)) ∧ W.cell? ⟨T, 1, none⟩ = some (.string nm)) (first | assumption | exact ⟨x0, x1, x2⟩ | exact ⟨y0, y1, y2⟩ | simp [*])
      (first | (go_at_call 44; refine HAp.out.mono ?_; rintro e w2 ⟨rfl, ps2, clk2, hw2, hd2⟩; have HW2 := Lib.hid (Went.pre HK1.out.drew hw2); have HD2 := Lib.hid hd2; have HCB2 := Lib.hid ((HCB.out.kept (Kept.refl (fun _ => False) W1).drew (fun k e => e.elim)).kept hw2.kept (fun k hk => .inl (HF.out.lt k hk))); have HFt2 : Hid (∀ k ∈ foot F M ps2, k < w.heap.size ∨ w.heap.size + 6 ≤ k) := Lib.hid (fun k hk => ((hw2.feet k hk).imp (fun h => HF.out.lt k h) (fun h => by have h2 : W1.drew.heap.size = W1.heap.size := rfl; rw [h2, HZ1.out] at h; exact h))); have y0 : w2.cell? ⟨B0, 0, none⟩ = some (.pointer (some ⟨T, 0, none⟩)) := (by rw [HB0.out]; exact HCB2.out.b0.cell); have y1 := (HSB.out.kept HW2.out.kept HT.out).c0; have y2 := (HSB.out.kept HW2.out.kept HT.out).c1; clear hw2 hd2))
    clear x0 x1 x2 y0 y1 y2
    have n1 : w2.cell? ⟨B1, 0, none⟩ = some (.int .u64 0) := by rw [HB1.out]; exact HCB2.out.b1.cell
    have n1f : w2.frozen? ⟨B1, 0, none⟩ = false := by rw [HB1.out]; exact HCB2.out.b1.frozen
    have n2 : w2.cell? ⟨B2, 0, none⟩ = some (.int .i64 0) := by rw [HB2.out]; exact HCB2.out.b2.cell
    have n2f : w2.frozen? ⟨B2, 0, none⟩ = false := by rw [HB2.out]; exact HCB2.out.b2.frozen
    have n3 : w2.cell? ⟨B3, 0, none⟩ = some (.int .i64 0) := by rw [HB3.out]; exact HCB2.out.b3.cell
    have n3f : w2.frozen? ⟨B3, 0, none⟩ = false := by rw [HB3.out]; exact HCB2.out.b3.frozen
    have p12 : ¬ B1 = B2 := by have := HB1.out; have := HB2.out; omega
    have p13 : ¬ B1 = B3 := by have := HB1.out; have := HB3.out; omega
    have p23 : ¬ B2 = B3 := by have := HB2.out; have := HB3.out; omega
    have p21 : ¬ B2 = B1 := by omega
    have p31 : ¬ B3 = B1 := by omega
    have p32 : ¬ B3 = B2 := by omega
    have hB9 : ∀ k, (k = B1 ∨ k = B2 ∨ k = B3) → w.heap.size ≤ k ∧ k < w.heap.size + 6 := fun k e => by have h1 := HB1.out; have h2 := HB2.out; have h3 := HB3.out; omega
    have HB9 := Lib.hid hB9
    clear hB9
    go_wp2
    obtain ⟨s1, s2, s3, sk⟩ := res3 (W := w2) (by rw [HB1.out]; exact HCB2.out.b1) (by rw [HB2.out]; exact HCB2.out.b2) (by rw [HB3.out]; exact HCB2.out.b3) p12 p13 p23 (.int .u64 0) (.int .i64 0) (.int .i64 13)
    refine leave_none (v := .tuple #[.int .u64 0, .int .i64 0, .int .i64 13]) (results_cell3 rfl (fun w => by kernel_rfl) (fun w => by kernel_rfl) (fun w => by kernel_rfl) rfl rfl rfl s1.cell s2.cell s3.cell) ⟨0, 0, 13, rfl, ps2, clk2, _, true, HW2.out.off sk fun k e => ⟨fun hm => ?_, (HB9.out k e).1⟩, .inr (.inr ⟨rfl, rfl, by rw [Ha1.out]; decide, fun t ht => by rw [HD2.out, Disk.put_ne _ _ ht]⟩)⟩
    have h1 := HFt2.out k hm
    have h2 := HB9.out k e
    omega
  · rw [show hitE arm = 0 by rw [hitE, if_neg ha1], decide_eq_false ha1] at HAp
    have Ha1 := Lib.hid ha1
    clear ha1 g1
    go_region_held3 (fun W => W.cell? ⟨B0, 0, none⟩ = some (.pointer (some ⟨T, 0, none⟩)) ∧ W.cell? ⟨T, 0, none⟩ = some (.pointer (some ⟨F, 0, none⟩)) ∧ W.cell? ⟨T, 1, none⟩ = some (.string nm)) (first | assumption | exact ⟨x0, x1, x2⟩ | exact ⟨y0, y1, y2⟩ | simp [*])
      (first | (go_at_call 44; refine HAp.out.mono ?_; rintro e w2 ⟨rfl, ps2, clk2, hw2, hd2⟩; have HW2 := Lib.hid (Went.pre HK1.out.drew hw2); have HD2 := Lib.hid hd2; have HCB2 := Lib.hid ((HCB.out.kept (Kept.refl (fun _ => False) W1).drew (fun k e => e.elim)).kept hw2.kept (fun k hk => .inl (HF.out.lt k hk))); have HFt2 : Hid (∀ k ∈ foot F M ps2, k < w.heap.size ∨ w.heap.size + 6 ≤ k) := Lib.hid (fun k hk => ((hw2.feet k hk).imp (fun h => HF.out.lt k h) (fun h => by have h2 : W1.drew.heap.size = W1.heap.size := rfl; rw [h2, HZ1.out] at h; exact h))); have HZ2 := Lib.hid hw2.kept.size; have y0 : w2.cell? ⟨B0, 0, none⟩ = some (.pointer (some ⟨T, 0, none⟩)) := (by rw [HB0.out]; exact HCB2.out.b0.cell); have y1 := (HSB.out.kept HW2.out.kept HT.out).c0; have y2 := (HSB.out.kept HW2.out.kept HT.out).c1; clear hw2 hd2))
    have HSB2 := Lib.hid (HSB.out.kept HW2.out.kept HT.out)
    have HFr := Lib.hid (frames_any w2 T F nm Av qs.length cv qs next size false HSB2.out rfl hl hcv HA.out (Hat.out w2 HW2.out.kept) Hw.out)
    clear x0 x1 x2 y1 y2
    go_wp2_with (first
      | (go_at_call 62; refine HFr.out.mono ?_; rintro e w3 ⟨v3, bs, parts, rfl, ho3, hbp, hcut⟩; obtain ⟨A3, c3, rfl, hA3, hbb3, hblk3⟩ := ho3.at_; have HO3 := Lib.hid ho3; have Hbp := Lib.hid hbp; have HCut := Lib.hid hcut; have HA3 := Lib.hid hA3; have HBB3 := Lib.hid hbb3; have Hblk3 := Lib.hid hblk3; obtain ⟨nb, hnb⟩ : ∃ nb, nb = bs.length := ⟨_, rfl⟩; rw [← hnb]; have Hnb := Lib.hid hnb; clear ho3 hbp hcut hA3 hbb3 hblk3 hnb)
      | (go_at_call 61; refine (valuesBB_of _ _ _ _).mono ?_; rintro e w4 ⟨rfl, rfl⟩))
    obtain ⟨W4, hW4⟩ : ∃ W4, W4 = w3.alloc (.cells #[.slice A3 nb c3] 106) := ⟨_, rfl⟩
    rw [← hW4]
    have hk34 : Kept (fun _ => False) w3 W4 := by rw [hW4]; exact (Kept.refl _ w3).alloc _
    have hbx4 : Boxed W4 w3.heap.size 106 (.slice A3 nb c3) := by rw [hW4]; exact Boxed.new w3 106 _
    have hs4 : W4.heap.size = w3.heap.size + 1 := by rw [hW4]; simp [World.size_alloc]
    obtain ⟨L0, hL0⟩ : ∃ L0, L0 = w2.heap.size := ⟨_, rfl⟩
    obtain ⟨L1, hL1⟩ : ∃ L1, L1 = W4.heap.size := ⟨_, rfl⟩
    have hLa : w.heap.size + 6 ≤ L0 := by rw [hL0, ← HZ1.out]; exact HZ2.out
    have hLb : L0 + 1 ≤ L1 := by rw [hL0, hL1, hs4]; have := HO3.out.kept.size; omega
    have hLc : w3.heap.size < L1 := by omega
    have hk24 : Kept (fun _ => False) w2 W4 := HO3.out.kept.trans' hk34
    have h40 : Hid (CpJ w F M ps lim arm (nm ++ dotT) T L0 L1 W4 [] W4) := Lib.hid (by
      refine ⟨⟨ps2, clk2, decA arm, HW2.out.off hk24 fun k e => e.elim, HD2.out, fun e => decA0 e, fun k hk => ?_⟩, HCB2.out.kept hk24 fun k e => e.elim, Kept.refl _ _⟩
      rcases HFt2.out k hk with h | h
      · exact .inl h
      · exact .inr (.inl ⟨h, by rw [hL0]; exact HW2.out.at_.lt k hk⟩))
    have hit := valuesBB_iter w3.heap.size nb c3 A3 bs W4 hbx4 Hnb.out (by
        rw [Hnb.out]
        have h1 := congrArg List.length Hbp.out
        have h2 := cut_len HCut.out
        simp only [List.length_map] at h1
        omega) (HBB3.out.kept hk34).cells (fun ad e => .inr (by have := (Hblk3.out ad e).2; omega))
    have hrd : ∀ k, (bs ≠ [] ∧ rdOf A3 k) → L0 ≤ k ∧ k < L1 := fun k ⟨_, ad, e, e2⟩ => by rw [← e2]; have := Hblk3.out ad e; omega
    have HOx : Hid (∀ x ∈ bs, ∀ W, Kept (fun k => k < L0 ∨ L1 ≤ k) W4 W → Bs W x.A x.b ∧ (x.A = none → x.c = 0)) := Lib.hid fun x hx W hk => by
      have h1 := own_kept (own_kept (HO3.out.own x hx) hk34 (by simp)) hk fun k e e2 => by
        have h2 := own_ge (HO3.out.own x hx) k e
        have h3 := own_lt' (HO3.out.own x hx) k e
        omega
      obtain ⟨A, c, h2, -, h4, h5, -⟩ := Bs.of_own h1
      simp only [BV.val, Value.slice.injEq] at h2
      obtain ⟨rfl, -, rfl⟩ := h2
      exact ⟨h4, h5⟩
    have HLa := Lib.hid hLa
    have HLb := Lib.hid hLb
    have Hrd := Lib.hid hrd
    have HL1 := Lib.hid hL1
    have HTot : Hid (frLen (cutF qs) = frLen parts) := Lib.hid (by rw [HCut.out.is])
    refine wp_range (gf := 83) rfl (enters_of Tryz.func83 (by kernel_rfl) rfl) hit (fun _ => rfl) (fun k h => h.elim) (fun k hk => by rw [← hL1]; exact (hrd k hk).2)
      (fun pre W => CpJ w F M ps lim arm (nm ++ dotT) T L0 L1 W4 (pre.map BV.b) W)
      (fun c pre W => c = .ret ∧ CpX w F M ps lim arm (nm ++ dotT) L0 L1 (frLen (cutF qs)) W)
      (fun pre A C h hk => h.carry hLa (by omega) hk fun k e => by rw [hL1]; rcases e with e | e | e; exact e.elim; omega; omega)
      (fun c pre A C h hk => ⟨h.1, h.2.carry hLa (by omega) hk fun k e => by rw [hL1]; rcases e with e | e | e; exact e.elim; omega; omega⟩)
      h40.out
      (fun x => { tmps := #[.pointer (some ⟨T, 0, none⟩), .pointer (some ⟨B0, 0, none⟩), .pointer (some ⟨B1, 0, none⟩), .pointer (some ⟨B2, 0, none⟩), .pointer (some ⟨B3, 0, none⟩), .pointer (some ⟨B4, 0, none⟩), .pointer (some ⟨B5, 0, none⟩), .int .i64 0, .slice x.A x.b.length x.c, undef, undef, .pointer (some ⟨T, 0, none⟩), .pointer (some ⟨T, 0, none⟩), .pointer (some ⟨T, 0, none⟩), .pointer (some ⟨F, 0, none⟩), .pointer (some ⟨T, 0, none⟩), .pointer (some ⟨T, 0, none⟩), .pointer (some ⟨T, 1, none⟩), .string nm, .string (nm ++ ⟨#[46, 116]⟩), .int .i64 0, .int .i64 0, .bool false, undef, .pointer (some ⟨T, 0, none⟩), .slice A3 nb c3, .func (.func 83) #[] #[.pointer (some ⟨w3.heap.size, 0, none⟩)], .slice x.A x.b.length x.c, undef, undef, undef, undef, undef, undef, undef, undef, undef, undef, undef, undef, undef, undef, undef, undef, undef, undef, undef, undef, undef, undef, undef, undef, undef, undef, undef, undef, undef, undef, undef, undef, undef, undef, undef, undef, undef, undef, undef, undef], defers := [] }) ?assign ?body ?done ?stop
    case assign =>
      intro l x W K hK
      unfold encBB
      gi_wp2
      exact hK
    case body =>
      rintro l pre x post W hxs ⟨⟨ps5, clk5, arm5, hw5, two5, harm5, hft5⟩, hcb5, hkeep5⟩ hsz
      rw [← hL1] at hsz
      have hxm : x ∈ bs := by rw [hxs]; simp
      obtain ⟨hbx, hAx⟩ := HOx.out x hxm W hkeep5
      have hpre : pre.map BV.b = (parts.take pre.length).map bytesP := by
        rw [List.map_take, ← Hbp.out, hxs]
        simp
      have hpx : (pre ++ [x]).map BV.b = (parts.take (pre.length + 1)).map bytesP := by
        rw [List.map_take, ← Hbp.out, hxs]
        rw [show pre ++ x :: post = (pre ++ [x]) ++ post by simp, List.map_append (l₁ := pre ++ [x]), List.take_left' (by simp)]
      have hxl : x.b.length ≤ 32768 := by
        have h1 : x.b ∈ parts.map bytesP := by rw [← Hbp.out]; exact List.mem_map_of_mem hxm
        obtain ⟨lp, h2, h3⟩ := List.mem_map.1 h1
        rw [← h3]; exact (HCut.out.fit lp h2).2
      have hnl : pre.length ≤ 8000 := by
        have h1 := congrArg List.length Hbp.out
        have h2 := cut_len HCut.out
        have h3 := congrArg List.length hxs
        simp only [List.length_map, List.length_append, List.length_cons] at h1 h3
        omega
      have hfit : (frsL 0 (pre.map BV.b)).length + (frameB pre.length x.b).length ≤ frLen (cutF qs) := by
        have h1 := congrArg (fun l => (frsL 0 l).length) hpx
        simp only [List.map_append, List.map_cons, List.map_nil] at h1
        rw [frsL_snoc, List.length_append, frsL_len, Nat.zero_add, List.length_map] at h1
        have h2 := fr_pre parts (pre.length + 1)
        rw [HTot.out]
        omega
      have hu5 : usedL ps5 = usedL ps + (frsL 0 (pre.map BV.b)).length := by
        have h1 := used_put HF.out.names hw5.at_.names two5
        rw [HNt.out] at h1
        simpa [szV, oldB] using h1
      obtain ⟨n, hn⟩ : ∃ n, n = pre.length := ⟨_, rfl⟩
      obtain ⟨s, hs⟩ : ∃ s, s = (frsL 0 (pre.map BV.b)).length := ⟨_, rfl⟩
      rw [List.length_map, ← hn, ← hs] at hcb5
      rw [← hn, ← hs] at hfit
      have HMk := Lib.hid (make_any W n x.A x.b.length x.c x.b (by omega) rfl hxl hbx hAx)
      have HW5 := Lib.hid hw5
      have HTw5 := Lib.hid two5
      have HFt5 := Lib.hid hft5
      have HCB5 := Lib.hid hcb5
      have HKp5 := Lib.hid hkeep5
      have Hsz := Lib.hid hsz
      have Hn := Lib.hid hn
      have Hs := Lib.hid hs
      have Hxf := Lib.hid hfit
      have HU5 := Lib.hid hu5
      have Harm5 := Lib.hid harm5
      have hn9 : (n : Int) ≤ 8000 := by omega
      have z4 : W.cell? ⟨B4, 0, none⟩ = some (.int .u64 (n : Nat)) := by rw [HB4.out]; exact hcb5.b4.cell
      clear hu5 harm5 hxs hw5 two5 hft5 hcb5 hkeep5 hsz hxm hbx hAx hpre hpx hxl hnl hfit hn hs h40 hit hbx4 hrd hk24 hk34 hLa hLb hLc hs4 hL0 hL1 hW4
      gi_wp2_with (refine ⟨trivial, ?_⟩; gi_at_call 42; refine (CallsIn.inRound l (callsIn_wide.2 HMk.out)).mono ?_; rintro e w6 ⟨v6, rfl, ho6, hk6⟩; obtain ⟨A6, c6, h6v, -, hb6, hA6, ho6b⟩ := Bs.of_own ho6; subst h6v; have HBl6 : Hid (∀ ad, A6 = some ad → W.heap.size ≤ ad.block) := Lib.hid (fun ad e => own_ge ho6 _ (ho6b ad e)); obtain ⟨n6, hn6⟩ : ∃ n6, n6 = (frameB n x.b).length := ⟨_, rfl⟩; rw [← hn6]; have Hn6 := Lib.hid hn6; have HBs6 := Lib.hid hb6; have HA6 := Lib.hid hA6; have HK6 := Lib.hid hk6; have u0 : w6.cell? ⟨B0, 0, none⟩ = some (.pointer (some ⟨T, 0, none⟩)) := (by rw [HB0.out]; exact (HCB5.out.kept hk6 (fun k e => e.elim)).b0.cell); have u1 := ((HSB.out.kept HW5.out.kept HT.out).kept' hk6).c0; have u2 := ((HSB.out.kept HW5.out.kept HT.out).kept' hk6).c1; clear ho6 ho6b hk6 hb6 hA6 hn6 z4)
      refine wpIn_still_calls 10 (f := 44) (by kernel_rfl) (by kernel_rfl) (by kernel_rfl) (enters_of Tryz.func44 (by kernel_rfl) rfl) (fun ⟨_, _, h⟩ => h) ?_
      simp only [List.take_succ_cons, List.take_zero, List.drop_succ_cons, List.drop_zero]
      repeat still_step
      refine wpStill_nil ?_
      have HF6 := Lib.hid (HW5.out.at_.kept HK6.out.drew (by simp))
      have HAp6 : Hid (Calls Tryz.prog 44 #[.pointer (some ⟨F, 0, none⟩), .string (nm ++ ⟨#[46, 116]⟩), .slice A6 n6 c6] w6.drew fun e w' => ∃ er, e = .returned (.int .i64 er) ∧ AppR w6.drew F M ps5 lim arm5 (nm ++ dotT) (frameB n x.b) er w') := Lib.hid (appR_any (nm ++ dotT) A6 n6 c6 (frameB n x.b) HF6.out (by rw [ByteArray.size_append, show dotT.size = 2 from rfl]; omega) hfu (by have := HU.out; have := Hxf.out; have := HU5.out; have := Hs.out; omega) (HBs6.out.kept (Kept.refl (fun _ => False) w6).drew (by simp)) Hn6.out (by have := HU.out; have := Hxf.out; have := Hn6.out; omega) HA6.out (fun ad e => .inr fun e2 => by
        have h1 := HBl6.out ad e
        have h2 := HW5.out.at_.lt M (by simp [foot])
        omega))
      have hB45 : ¬ B4 = B5 := by have h1 := HB4.out; have h2 := HB5.out; omega
      have hB54 : ¬ B5 = B4 := by omega
      have hs9 : (s : Int) + (n6 : Int) ≤ 4194304 := by have := HU.out; have := Hxf.out; have := Hn6.out; omega
      clear u0 u1 u2
      go_wp2_with (go_at_call 44; refine HAp6.out.mono ?_; rintro e w7 ⟨er, rfl, hap⟩; have HApR := Lib.hid hap; clear hap)
      rcases HApR.out with ⟨rfl, hfull, hk7⟩ | ⟨ps7, clk7, hor, hd7⟩
      · have HKw7 : Hid (Kept (fun k => k ∈ foot F M ps5) W w7) := Lib.hid ((HK6.out.drew.trans' hk7).mono fun _ _ h => h.elim)
        have HCB7 := Lib.hid ((HCB5.out.kept HK6.out.drew (fun k e => e.elim)).kept hk7 (fun k e => e.elim))
        have HWE := Lib.hid ((HW5.out.off HK6.out.drew fun k e => e.elim).off hk7 fun k e => e.elim)
        have HFtE := HFt5
        have HE : Hid (CpE ps ps5 lim arm arm5 (nm ++ dotT) false (frLen (cutF qs)) 14) := Lib.hid ⟨fun t ht => by rw [HTw5.out, Disk.put_ne _ _ ht], Harm5.out, .inr ⟨rfl, rfl, ⟨_, by rw [HTw5.out]; exact Disk.put_same _ _ _⟩, by have := Hxf.out; have := HU5.out; have := Hs.out; omega⟩⟩
        clear hfull hk7
        have m1 : w7.cell? ⟨B1, 0, none⟩ = some (.int .u64 0) := by rw [HB1.out]; exact HCB7.out.b1.cell
        have m1f : w7.frozen? ⟨B1, 0, none⟩ = false := by rw [HB1.out]; exact HCB7.out.b1.frozen
        have m2 : w7.cell? ⟨B2, 0, none⟩ = some (.int .i64 0) := by rw [HB2.out]; exact HCB7.out.b2.cell
        have m2f : w7.frozen? ⟨B2, 0, none⟩ = false := by rw [HB2.out]; exact HCB7.out.b2.frozen
        have m3 : w7.cell? ⟨B3, 0, none⟩ = some (.int .i64 0) := by rw [HB3.out]; exact HCB7.out.b3.cell
        have m3f : w7.frozen? ⟨B3, 0, none⟩ = false := by rw [HB3.out]; exact HCB7.out.b3.frozen
        have p12 : ¬ B1 = B2 := by have := HB1.out; have := HB2.out; omega
        have p13 : ¬ B1 = B3 := by have := HB1.out; have := HB3.out; omega
        have p23 : ¬ B2 = B3 := by have := HB2.out; have := HB3.out; omega
        have p21 : ¬ B2 = B1 := by omega
        have p31 : ¬ B3 = B1 := by omega
        have p32 : ¬ B3 = B2 := by omega
        clear p12 p13 p23
        have p12 : ¬ B1 = B2 := fun e => p21 e.symm
        have p13 : ¬ B1 = B3 := fun e => p31 e.symm
        have p23 : ¬ B2 = B3 := fun e => p32 e.symm
        gi_wp2
        obtain ⟨hX, hkX⟩ := cpx_end HLa.out (by have := HLb.out; omega) HWE.out HFtE.out HE.out HCB7.out HB1.out HB2.out HB3.out
        refine ⟨fun k hk => ?_, rfl, hX⟩
        have h1 := HL1.out
        have h2 := HLb.out
        have h3 := HLa.out
        have h4 := Hsz.out
        have h5 := HKw7.out.size
        rw [hkX.block k (by omega) (by omega)]
        exact HKw7.out.block k (by omega) fun hm => by have := HFt5.out k hm; omega
      · rcases hor with ⟨rfl, ha, hw7⟩ | ⟨rfl, ha, hw7⟩
        · have HKw7 : Hid (Kept (fun k => k ∈ foot F M ps5) W w7) := Lib.hid ((HK6.out.drew.mono fun _ _ h => h.elim).trans' hw7.kept)
          have HCB7 := Lib.hid ((HCB5.out.kept HK6.out.drew (fun k e => e.elim)).kept hw7.kept (fun k e => (by have := HFt5.out k e; have := HLa.out; have := HLb.out; omega)))
          have HWE := Lib.hid (HW5.out.trans (Went.pre HK6.out.drew hw7))
          have HFtE : Hid (∀ k ∈ foot F M ps7, k < w.heap.size ∨ (w.heap.size + 6 ≤ k ∧ k < L0) ∨ L1 + 2 ≤ k) := Lib.hid fun k hk => by
            rcases hw7.feet k hk with h | h
            · exact HFt5.out k h
            · have := Hsz.out; have := HK6.out.drew.size; omega
          have HE : Hid (CpE ps ps7 lim arm (decA arm5) (nm ++ dotT) true (frLen (cutF qs)) 13) := Lib.hid ⟨fun t ht => by rw [hd7, Disk.put_ne _ _ ht, HTw5.out, Disk.put_ne _ _ ht], fun e => decA0 (Harm5.out e), .inl ⟨rfl, rfl, fun e => by have := Harm5.out e; omega⟩⟩
          clear ha hw7 hd7
          have m1 : w7.cell? ⟨B1, 0, none⟩ = some (.int .u64 0) := by rw [HB1.out]; exact HCB7.out.b1.cell
          have m1f : w7.frozen? ⟨B1, 0, none⟩ = false := by rw [HB1.out]; exact HCB7.out.b1.frozen
          have m2 : w7.cell? ⟨B2, 0, none⟩ = some (.int .i64 0) := by rw [HB2.out]; exact HCB7.out.b2.cell
          have m2f : w7.frozen? ⟨B2, 0, none⟩ = false := by rw [HB2.out]; exact HCB7.out.b2.frozen
          have m3 : w7.cell? ⟨B3, 0, none⟩ = some (.int .i64 0) := by rw [HB3.out]; exact HCB7.out.b3.cell
          have m3f : w7.frozen? ⟨B3, 0, none⟩ = false := by rw [HB3.out]; exact HCB7.out.b3.frozen
          have p12 : ¬ B1 = B2 := by have := HB1.out; have := HB2.out; omega
          have p13 : ¬ B1 = B3 := by have := HB1.out; have := HB3.out; omega
          have p23 : ¬ B2 = B3 := by have := HB2.out; have := HB3.out; omega
          have p21 : ¬ B2 = B1 := by omega
          have p31 : ¬ B3 = B1 := by omega
          have p32 : ¬ B3 = B2 := by omega
          clear p12 p13 p23
          have p12 : ¬ B1 = B2 := fun e => p21 e.symm
          have p13 : ¬ B1 = B3 := fun e => p31 e.symm
          have p23 : ¬ B2 = B3 := fun e => p32 e.symm
          gi_wp2
          obtain ⟨hX, hkX⟩ := cpx_end HLa.out (by have := HLb.out; omega) HWE.out HFtE.out HE.out HCB7.out HB1.out HB2.out HB3.out
          refine ⟨fun k hk => ?_, rfl, hX⟩
          have h1 := HL1.out
          have h2 := HLb.out
          have h3 := HLa.out
          have h4 := Hsz.out
          have h5 := HKw7.out.size
          rw [hkX.block k (by omega) (by omega)]
          exact HKw7.out.block k (by omega) fun hm => by have := HFt5.out k hm; omega
        · have HW7 := Lib.hid hw7
          have hcb7 := (HCB5.out.kept HK6.out.drew (fun k e => e.elim)).kept hw7.kept (fun k e => (by have := HFt5.out k e; have := HLa.out; have := HLb.out; omega))
          have v4 : w7.cell? ⟨B4, 0, none⟩ = some (.int .u64 (n : Nat)) := by rw [HB4.out]; exact hcb7.b4.cell
          have v4f : w7.frozen? ⟨B4, 0, none⟩ = false := by rw [HB4.out]; exact hcb7.b4.frozen
          have v5 : w7.cell? ⟨B5, 0, none⟩ = some (.int .i64 (s : Nat)) := by rw [HB5.out]; exact hcb7.b5.cell
          have v5f : w7.frozen? ⟨B5, 0, none⟩ = false := by rw [HB5.out]; exact hcb7.b5.frozen
          have HD7 : Hid (lk ps7 = (lk ps).put (nm ++ dotT) (some (frsL 0 (pre.map BV.b) ++ frameB n x.b, 0))) := Lib.hid (by rw [hd7, HTw5.out, Disk.put_same, put_put]; rfl)
          have HArm7 : Hid (arm = 0 → decA arm5 = 0) := Lib.hid fun e => decA0 (Harm5.out e)
          clear ha hw7 hd7 hcb7
          gi_wp2
          have h := cpj_round HLa.out (by have := HLb.out; omega) Hsz.out HW5.out HFt5.out HCB5.out HKp5.out HK6.out.drew HW7.out HArm7.out HD7.out HB4.out HB5.out (by rw [Hn.out, List.length_map]) Hs.out Hn6.out
          refine ⟨⟨h.1.1, fun k hk => h.1.2 k ?_⟩, by dsimp only; rw [List.map_append]; exact h.2⟩
          have h1 := HL1.out
          have h2 := HLb.out
          rcases hk with hk | hk | hk
          · have := Hrd.out k hk; omega
          · omega
          · omega
    case done =>
      rintro W ⟨⟨ps5, clk5, arm5, hw5, two5, harm5, hft5⟩, hcb5, hkeep5⟩ hD
      obtain ⟨n, hn⟩ : ∃ n, n = (bs.map BV.b).length := ⟨_, rfl⟩
      obtain ⟨s, hs⟩ : ∃ s, s = (frsL 0 (bs.map BV.b)).length := ⟨_, rfl⟩
      rw [← hn, ← hs] at hcb5
      have HW5 := Lib.hid hw5
      have HTw5 := Lib.hid two5
      have HFt5 := Lib.hid hft5
      have HCB5 := Lib.hid hcb5
      have Hn := Lib.hid hn
      have Hs := Lib.hid hs
      have HD := Lib.hid hD
      have Harm5 := Lib.hid harm5
      have HSy : Hid (Calls Tryz.prog 45 #[.pointer (some ⟨F, 0, none⟩), .string (nm ++ ⟨#[46, 116]⟩)] W.drew fun e w' => ∃ er, e = .returned (.int .i64 er) ∧ OpR W.drew F M ps5 lim arm5 ((lk ps5).put (nm ++ dotT) (some (frsL 0 (bs.map BV.b), (frsL 0 (bs.map BV.b)).length))) er w') := Lib.hid ((sync_D (nm ++ dotT) (frsL 0 (bs.map BV.b), 0) (hw5.at_.kept (Kept.refl (fun _ => False) W).drew (by simp)) (by rw [two5]; exact Disk.put_same _ _ _)).mono fun e w' h => opR_of h)
      have HT3 := Lib.hid (HSB.out.kept hw5.kept HT.out)
      have hT2 := HT2.out
      have e0 := HB0.out
      have e1 := HB1.out
      have e2 := HB2.out
      have e3 := HB3.out
      have e4 := HB4.out
      have e5 := HB5.out
      have n01 : B0 ≠ B1 := by omega
      have n02 : B0 ≠ B2 := by omega
      have n03 : B0 ≠ B3 := by omega
      have n41 : B4 ≠ B1 := by omega
      have n42 : B4 ≠ B2 := by omega
      have n43 : B4 ≠ B3 := by omega
      have n51 : B5 ≠ B1 := by omega
      have n52 : B5 ≠ B2 := by omega
      have n53 : B5 ≠ B3 := by omega
      have m1 : T ≠ B1 := by omega
      have m2 : T ≠ B2 := by omega
      have m3 : T ≠ B3 := by omega
      have HcpS : Hid (CpS B0 B4 B5 T F nm n s W) := Lib.hid ⟨by rw [e0]; exact hcb5.b0.cell, HT3.out.c0, HT3.out.c1, by rw [e4]; exact hcb5.b4.cell, by rw [e5]; exact hcb5.b5.cell⟩
      have f1 : W.frozen? ⟨B1, 0, none⟩ = false := by rw [e1]; exact hcb5.b1.frozen
      have N01 := Lib.hid n01
      have N02 := Lib.hid n02
      have N03 := Lib.hid n03
      have N41 := Lib.hid n41
      have N42 := Lib.hid n42
      have N43 := Lib.hid n43
      have N51 := Lib.hid n51
      have N52 := Lib.hid n52
      have N53 := Lib.hid n53
      have M1 := Lib.hid m1
      have M2 := Lib.hid m2
      have M3 := Lib.hid m3
      have p12 : ¬ B1 = B2 := by omega
      have p13 : ¬ B1 = B3 := by omega
      have p21 : ¬ B2 = B1 := by omega
      have p23 : ¬ B2 = B3 := by omega
      have p31 : ¬ B3 = B1 := by omega
      have p32 : ¬ B3 = B2 := by omega
      clear harm5 hw5 two5 hft5 hcb5 hkeep5 hD hn hs hT2 e0 e1 e2 e3 e4 e5 n01 n02 n03 n41 n42 n43 n51 n52 n53 m1 m2 m3 f1 h40 hit hbx4 hrd hk24 hk34 hLa hLb hLc hs4 hL0 hL1 hW4
      go_upto_region 14 with fail
      go_region_held3 (fun W => W.cell? ⟨B0, 0, none⟩ = some (.pointer (some ⟨T, 0, none⟩)) ∧ W.cell? ⟨T, 0, none⟩ = some (.pointer (some ⟨F, 0, none⟩)) ∧ W.cell? ⟨T, 1, none⟩ = some (.string nm) ∧ W.cell? ⟨B4, 0, none⟩ = some (.int .u64 (n : Nat)) ∧ W.cell? ⟨B5, 0, none⟩ = some (.int .i64 (s : Nat)))
        (first | assumption | exact HcpS.out | exact HcpS8.out | exact CpS.off (by assumption) (kF _ B1 0 _) N01.out N41.out N51.out M1.out | exact CpS.off (by assumption) (kF _ B2 0 _) N02.out N42.out N52.out M2.out | exact CpS.off (by assumption) (kF _ B3 0 _) N03.out N43.out N53.out M3.out)
        (first
          | (go_at_call 45; refine HSy.out.mono ?_; rintro e w8 ⟨er8, rfl, hop⟩; have HOp8 := Lib.hid hop; have HKf8 : Hid (Kept (fun k => k ∈ foot F M ps5) W.drew w8) := Lib.hid (by obtain ⟨ps', c', (⟨-, -, hw, -⟩ | ⟨-, -, hw, -⟩)⟩ := hop; exact hw.kept; exact hw.kept); have HCB8 := Lib.hid ((HCB5.out.kept (Kept.refl (fun _ => False) W).drew (fun k e => e.elim)).kept HKf8.out (fun k e => (by have := HFt5.out k e; have := HLa.out; have := HLb.out; omega))); have HT8 := Lib.hid ((HT3.out.kept' (Kept.refl (fun _ => False) W).drew).kept HKf8.out (fun hm => (by rcases HW5.out.feet T hm with h | h; exact HT.out h; have := HT2.out; omega))); have HcpS8 : Hid (CpS B0 B4 B5 T F nm n s w8) := Lib.hid ⟨(by rw [HB0.out]; exact HCB8.out.b0.cell), HT8.out.c0, HT8.out.c1, (by rw [HB4.out]; exact HCB8.out.b4.cell), (by rw [HB5.out]; exact HCB8.out.b5.cell)⟩; have f1 : w8.frozen? ⟨B1, 0, none⟩ = false := (by rw [HB1.out]; exact HCB8.out.b1.frozen); have f2 : w8.frozen? ⟨B2, 0, none⟩ = false := (by rw [HB2.out]; exact HCB8.out.b2.frozen); have f3 : w8.frozen? ⟨B3, 0, none⟩ = false := (by rw [HB3.out]; exact HCB8.out.b3.frozen); have g1 : w8.cell? ⟨B1, 0, none⟩ = some (.int .u64 0) := (by rw [HB1.out]; exact HCB8.out.b1.cell); have g2 : w8.cell? ⟨B2, 0, none⟩ = some (.int .i64 0) := (by rw [HB2.out]; exact HCB8.out.b2.cell); have g3 : w8.cell? ⟨B3, 0, none⟩ = some (.int .i64 0) := (by rw [HB3.out]; exact HCB8.out.b3.cell); clear hop))
      have hB9 : ∀ k, (k = B1 ∨ k = B2 ∨ k = B3) → w.heap.size ≤ k ∧ k < w.heap.size + 6 := fun k e => by have h1 := HB1.out; have h2 := HB2.out; have h3 := HB3.out; omega
      have HB9 := Lib.hid hB9
      clear hB9
      obtain ⟨ps8, clk8, dn8, hw8, hres⟩ : ∃ ps8 clk8 dn8, Went W.drew F M ps5 ps8 clk8 lim (decA arm5) dn8 w8 ∧ ((er8 = 13 ∧ dn8 = true ∧ arm5 = 1 ∧ lk ps8 = lk ps5) ∨ (er8 = 0 ∧ dn8 = false ∧ lk ps8 = (lk ps5).put (nm ++ dotT) (some (frsL 0 (bs.map BV.b), (frsL 0 (bs.map BV.b)).length)))) := by
        obtain ⟨ps8, clk8, (⟨h1, h2, h3, h4⟩ | ⟨h1, h2, h3, h4⟩)⟩ := HOp8.out
        · exact ⟨ps8, clk8, _, h3, .inl ⟨h1, rfl, h2, h4⟩⟩
        · exact ⟨ps8, clk8, _, h3, .inr ⟨h1, rfl, h4⟩⟩
      obtain ⟨s1, s2, s3, sk⟩ := res3 (W := w8) (by rw [HB1.out]; exact HCB8.out.b1) (by rw [HB2.out]; exact HCB8.out.b2) (by rw [HB3.out]; exact HCB8.out.b3) p12 p13 p23 (.int .u64 (n : Nat)) (.int .i64 (s : Nat)) (.int .i64 er8)
      obtain ⟨V3, hV3⟩ : ∃ V3, V3 = ((w8.setCell ⟨B1, 0, none⟩ (.int .u64 (n : Nat))).setCell ⟨B2, 0, none⟩ (.int .i64 (s : Nat))).setCell ⟨B3, 0, none⟩ (.int .i64 er8) := ⟨_, rfl⟩
      rw [← hV3] at s1 s2 s3 sk ⊢
      have hDl : W4.heap.size < W.heap.size := (Array.getElem?_eq_some_iff.1 HD.out).1
      have hDn : W4.heap.size ∉ foot F M ps5 := fun hm => by have := HFt5.out _ hm; have := HL1.out; have := HLa.out; have := HLb.out; omega
      have hDb : ¬ (W4.heap.size = B1 ∨ W4.heap.size = B2 ∨ W4.heap.size = B3) := fun e => by have := HB9.out _ e; have := HL1.out; have := HLa.out; have := HLb.out; omega
      have hD9 : V3.heap[W4.heap.size]? = some (.deferred (some [])) := sk.heap (HKf8.out.heap ((Kept.refl (fun _ => False) W).drew.heap HD.out (by simp)) hDn) hDb
      have hkD : Kept (fun k => k = W4.heap.size) V3 (V3.putObj W4.heap.size (.deferred none)) := putObj_kept V3 W4.heap.size (.deferred none)
      have S1 := Lib.hid (Boxed.cell (hkD.heap s1 (fun e => hDb (.inl e.symm))))
      have S2 := Lib.hid (Boxed.cell (hkD.heap s2 (fun e => hDb (.inr (.inl e.symm)))))
      have S3 := Lib.hid (Boxed.cell (hkD.heap s3 (fun e => hDb (.inr (.inr e.symm)))))
      have hft8 : ∀ k ∈ foot F M ps8, k < w.heap.size ∨ (w.heap.size + 6 ≤ k ∧ k < L0) ∨ L1 < k := fun k hk => by
        rcases hw8.feet k hk with h | h
        · have := HFt5.out k h; omega
        · have h3 : W.drew.heap.size = W.heap.size := rfl
          have := HL1.out
          omega
      have HWf := Lib.hid (((HW5.out.trans (Went.pre (Kept.refl (fun _ => False) W).drew hw8)).off sk fun k e => ⟨fun hm => by have h1 := hft8 k hm; have h2 := HB9.out k e; have := HLa.out; have := HLb.out; omega, (HB9.out k e).1⟩).off hkD fun k e => ⟨fun hm => by subst e; have h1 := hft8 _ hm; have := HL1.out; have := HLa.out; have := HLb.out; omega, by subst e; have := HL1.out; have := HLa.out; have := HLb.out; omega⟩)
      have HRes := Lib.hid hres
      have HD9 := Lib.hid hD9
      clear hw8 hres s1 s2 s3 sk hV3 hDl hDn hDb hD9 hkD hft8 f1 f2 f3 g1 g2 g3
      go_wp2
      refine leave_mark HD9.out (v := .tuple #[.int .u64 (n : Nat), .int .i64 (s : Nat), .int .i64 er8]) (show _ = Result.ok _ _ from results_cell3 rfl (fun w => by kernel_rfl) (fun w => by kernel_rfl) (fun w => by kernel_rfl) rfl rfl rfl S1.out S2.out S3.out) ⟨n, s, er8, rfl, ps8, clk8, _, dn8, HWf.out, ?_⟩
      rcases HRes.out with ⟨h1, h2, h3, h4⟩ | ⟨h1, h2, h4⟩
      · exact .inr (.inr ⟨h1, h2, fun e => by have := Harm5.out e; omega, fun t ht => by rw [h4, HTw5.out, Disk.put_ne _ _ ht]⟩)
      · refine .inr (.inl ⟨h1, h2, fun e => decA0 (Harm5.out e), parts, HCut.out, ?_, ?_, ?_⟩)
        · rw [Hn.out, List.length_map]; have := congrArg List.length Hbp.out; simpa using this
        · rw [Hs.out, Hbp.out, frsL_len]
        · rw [h4, HTw5.out, put_put, Hbp.out]
    case stop =>
      rintro c pre W _ ⟨rfl, hX⟩ hD
      have HX := Lib.hid hX
      have HD := Lib.hid hD
      clear hX hD
      have hDl : W4.heap.size < W.heap.size := (Array.getElem?_eq_some_iff.1 HD.out).1
      obtain ⟨ps6, clk6, a6, d6, er, h1, h2, h3, h4, h5, h6⟩ := HX.out.out
      have hkD : Kept (fun k => k = W4.heap.size) W (W.putObj W4.heap.size (.deferred none)) := putObj_kept W W4.heap.size (.deferred none)
      have hDn : W4.heap.size ∉ foot F M ps6 := fun hm => by have := h3 _ hm; have := HL1.out; have := HLa.out; have := HLb.out; omega
      have hnb : ∀ j, j < 6 → ¬ w.heap.size + j = W4.heap.size := fun j hj e => by have := HL1.out; have := HLa.out; have := HLb.out; omega
      have S1 := Lib.hid (Boxed.cell (hkD.heap h4 (hnb 1 (by omega))))
      have S2 := Lib.hid (Boxed.cell (hkD.heap h5 (hnb 2 (by omega))))
      have S3 := Lib.hid (Boxed.cell (hkD.heap h6 (hnb 3 (by omega))))
      have HW := Lib.hid (h1.off hkD fun k e => ⟨fun hm => hDn (e ▸ hm), by subst e; have := HL1.out; have := HLa.out; have := HLb.out; omega⟩)
      have HE := Lib.hid h2
      rw [← HB1.out] at S1
      rw [← HB2.out] at S2
      rw [← HB3.out] at S3
      clear h1 h2 h3 h4 h5 h6 hkD hDn hnb hDl
      go_wp2
      exact leave_mark HD.out (v := .tuple #[.int .u64 0, .int .i64 0, .int .i64 er]) (show _ = Result.ok _ _ from results_cell3 rfl (fun w => by kernel_rfl) (fun w => by kernel_rfl) (fun w => by kernel_rfl) rfl rfl rfl S1.out S2.out S3.out) ⟨0, 0, er, rfl, ps6, clk6, a6, d6, HW.out, .inl HE.out⟩
end Go.Proofs.YtcifhfdjigfeiaaGreatDoor
end
