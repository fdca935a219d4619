import Derived.Test.YtefpigakhhfcaaaDoorProg
import Derived.Test.YtefpigakhhfcaaaDoorMaa
import Derived.WalkSpells
import Derived.WalkLawsBesides
import Derived.Maps.RangeRun
import Derived.Maps.AppendAt
/-! How *files.Files lies in memory: its block, its map, each file's block and bytes; how that abides what is written. -/
section
set_option linter.unusedVariables false
set_option linter.unusedSimpArgs false
namespace Go.Proofs.YtefpigakhhfcaaaDoor
open Go.RowKit

/-- A byte as a cell. -/
def bv (x : UInt8) : Value := .int .u8 (x.toNat : Int)
/-- What a slice of bytes reads as. -/
def Bs (w : World) (A : Option Addr) (xs : List UInt8) : Prop :=
  (A = none → xs = []) ∧ ∀ ad, A = some ad → ∀ (j : Nat) u, (xs.map bv)[j]? = some u → w.cell? (ad.add j) = some u
theorem Bs.kept {S : Nat → Prop} {w w' : World} {A : Option Addr} {xs : List UInt8} (h : Bs w A xs) (hk : Kept S w w') (hS : ∀ ad, A = some ad → ¬ S ad.block) : Bs w' A xs :=
  ⟨h.1, fun ad e j u hu => hk.cell (h.2 ad e j u hu) (by
    have : (ad.add j).block = ad.block := by unfold Addr.add; split <;> rfl
    rw [this]; exact hS ad e)⟩
theorem Bs.nil (w : World) (A : Option Addr) : Bs w A [] := ⟨fun _ => rfl, fun _ _ j u hu => by simp at hu⟩
theorem bv_one (xs : List UInt8) : ∀ u ∈ xs.map bv, u.oneCell' = true := by simp [bv, Value.oneCell']
theorem Bs.of_own {w : World} {base n : Nat} {v : Value} {xs : List UInt8} (h : w.ownsRow base 5 1 v n (xs.map bv)) : ∃ A c, v = .slice A n c ∧ n = xs.length ∧ Bs w A xs ∧ (A = none → c = 0) ∧ ∀ ad, A = some ad → v.ownBlock = some ad.block := by
  have hn : n = xs.length := by have := h.1; simpa using this.symm
  rcases h.2 with ⟨rfl, h0⟩ | ⟨g, cap, cur, rfl, _, hh, _, _, hc, ht⟩
  · have : xs = [] := List.eq_nil_of_length_eq_zero (by omega)
    exact ⟨none, 0, by rw [h0], hn, by rw [this]; exact Bs.nil _ _, fun _ => rfl, fun ad e => by cases e⟩
  · refine ⟨_, cap, rfl, hn, ⟨fun e => (by cases e), fun ad e j u hu => ?_⟩, fun e => (by cases e), fun ad e => (by cases e; rfl)⟩
    cases e
    rw [← ht] at hu
    have hj := (List.getElem?_eq_some_iff.1 hu).1
    simp at hj
    rw [List.getElem?_take_of_lt (by omega)] at hu
    have e1 : (⟨g, 0, none⟩ : Addr).add j = ⟨g, j, none⟩ := by unfold Addr.add; split <;> simp_all
    rw [e1]
    simp [World.cell?, hh]
    simpa using hu

/-- A file, and where it lies. -/
structure PF where
  name : ByteArray
  b : List UInt8
  safe : Nat
  blk : Nat
  val : Value
  born : Nat
def PF.entry (p : PF) : MapEntry := ⟨.string p.name, .pointer (some ⟨p.blk, 0, none⟩), p.born⟩
def entriesOf (ps : List PF) : Array MapEntry := (ps.map PF.entry).toArray
def PF.blocks (p : PF) : List Nat := p.blk :: p.val.ownBlock.toList
structure PF.At (w : World) (p : PF) : Prop where
  cell : w.heap[p.blk]? = some (.cells #[p.val, .int .i64 p.safe] 100 (0, 0))
  own : w.ownsRow 0 5 1 p.val p.b.length (p.b.map bv)
  safe : p.safe ≤ p.b.length
  len : p.b.length ≤ 4194304
def foot (F M : Nat) (ps : List PF) : List Nat := F :: M :: ps.flatMap PF.blocks
structure FilesAt (w : World) (F M : Nat) (ps : List PF) (clock : Nat) (lim arm : Int) (dn : Bool) : Prop where
  fb : w.heap[F]? = some (.cells #[.map (some M), .int .i64 lim, .int .i64 arm, .bool dn] 77 (0, 0))
  map : w.heap[M]? = some (.map (entriesOf ps) clock)
  at_ : ∀ p ∈ ps, p.At w
  names : (ps.map PF.name).Nodup
  borns : (ps.map PF.born).Nodup
  old : ∀ p ∈ ps, p.born < clock
  sep : (foot F M ps).Nodup
  lim0 : 0 ≤ lim ∧ lim ≤ 4194304
  arm0 : 0 ≤ arm ∧ arm ≤ 9223372036854775807

theorem own_lt' {w : World} {base : Nat} {e : TypeId} {size n : Nat} {v : Value} {xs : List Value} (h : w.ownsRow base e size v n xs) (k : Nat) (hk : v.ownBlock = some k) : k < w.heap.size := by
  rcases h.2 with ⟨rfl, _⟩ | ⟨g, cap, cur, rfl, hb, hh, _⟩
  · simp [Value.ownBlock] at hk
  · have : g = k := by simpa [Value.ownBlock] using hk
    subst this
    exact (Array.getElem?_eq_some_iff.1 hh).1
theorem own_kept {S : Nat → Prop} {w w' : World} {base : Nat} {e : TypeId} {size n : Nat} {v : Value} {xs : List Value} (h : w.ownsRow base e size v n xs) (hk : Kept S w w') (hS : ∀ k, v.ownBlock = some k → ¬ S k) : w'.ownsRow base e size v n xs := by
  refine ⟨h.1, ?_⟩
  rcases h.2 with h' | ⟨g, cap, cur, rfl, hb, hh, r⟩
  · exact .inl h'
  · exact .inr ⟨g, cap, cur, rfl, hb, hk.heap hh (hS g rfl), r⟩
theorem PF.At.kept {S : Nat → Prop} {w w' : World} {p : PF} (h : p.At w) (hk : Kept S w w') (hS : ∀ k ∈ p.blocks, ¬ S k) : p.At w' :=
  ⟨hk.heap h.cell (hS _ (List.mem_cons_self ..)), own_kept h.own hk (fun k e => hS k (List.mem_cons_of_mem _ (by simp [e]))), h.safe, h.len⟩
theorem PF.At.lt {w : World} {p : PF} (h : p.At w) : ∀ k ∈ p.blocks, k < w.heap.size := by
  intro k hk
  rcases List.mem_cons.1 hk with rfl | hk
  · exact (Array.getElem?_eq_some_iff.1 h.cell).1
  · exact own_lt' h.own k (by simpa using hk)
variable {w w' : World} {F M : Nat} {ps l1 l2 : List PF} {p q : PF} {clock : Nat} {lim arm : Int} {dn : Bool}
theorem FilesAt.lt (h : FilesAt w F M ps clock lim arm dn) : ∀ k ∈ foot F M ps, k < w.heap.size := by
  intro k hk
  rcases List.mem_cons.1 hk with rfl | hk
  · exact (Array.getElem?_eq_some_iff.1 h.fb).1
  · rcases List.mem_cons.1 hk with rfl | hk
    · exact (Array.getElem?_eq_some_iff.1 h.map).1
    · obtain ⟨p, hp, hk⟩ := List.mem_flatMap.1 hk
      exact (h.at_ p hp).lt k hk
theorem mem_foot (hp : p ∈ ps) {k : Nat} (hk : k ∈ p.blocks) : k ∈ foot F M ps :=
  List.mem_cons_of_mem _ (List.mem_cons_of_mem _ (List.mem_flatMap.2 ⟨p, hp, hk⟩))
theorem FilesAt.kept {S : Nat → Prop} (h : FilesAt w F M ps clock lim arm dn) (hk : Kept S w w') (hS : ∀ k ∈ foot F M ps, ¬ S k) : FilesAt w' F M ps clock lim arm dn :=
  ⟨hk.heap h.fb (hS _ (by simp [foot])), hk.heap h.map (hS _ (by simp [foot])), fun p hp => (h.at_ p hp).kept hk (fun k hk => hS k (mem_foot hp hk)), h.names, h.borns, h.old, h.sep, h.lim0, h.arm0⟩
theorem FilesAt.ne (h : FilesAt w F M ps clock lim arm dn) : F ≠ M ∧ (∀ p ∈ ps, F ∉ p.blocks ∧ M ∉ p.blocks) := by
  have hs := h.sep
  unfold foot at hs
  rw [List.nodup_cons, List.nodup_cons] at hs
  refine ⟨fun e => hs.1 (by simp [e]), fun p hp => ⟨fun hk => hs.1 (List.mem_cons_of_mem _ (List.mem_flatMap.2 ⟨p, hp, hk⟩)), fun hk => hs.2.1 (List.mem_flatMap.2 ⟨p, hp, hk⟩)⟩⟩
/-- The files' own block turns. -/
theorem FilesAt.own (h : FilesAt w F M ps clock lim arm dn) {lim' arm' : Int} {dn' : Bool} (hk : Kept (fun k => k = F) w w')
    (hb : w'.heap[F]? = some (.cells #[.map (some M), .int .i64 lim', .int .i64 arm', .bool dn'] 77 (0, 0))) (hl : 0 ≤ lim' ∧ lim' ≤ 4194304) (ha : 0 ≤ arm' ∧ arm' ≤ 9223372036854775807) : FilesAt w' F M ps clock lim' arm' dn' :=
  ⟨hb, hk.heap h.map (fun e => h.ne.1 e.symm), fun p hp => (h.at_ p hp).kept hk (fun k hkk e => (h.ne.2 p hp).1 (by subst e; exact hkk)), h.names, h.borns, h.old, h.sep, hl, ha⟩

theorem entriesOf_mid : entriesOf (l1 ++ p :: l2) = entriesOf l1 ++ #[p.entry] ++ entriesOf l2 := by simp [entriesOf]
/-- One file turns. -/
theorem FilesAt.replace (h : FilesAt w F M (l1 ++ p :: l2) clock lim arm dn) (hk : Kept (fun k => k ∈ p.blocks) w w') (hq : q.At w')
    (hn : q.name = p.name) (hb : q.born = p.born) (hblk : q.blk = p.blk) (hv : ∀ k, q.val.ownBlock = some k → p.val.ownBlock = some k ∨ w.heap.size ≤ k) : FilesAt w' F M (l1 ++ q :: l2) clock lim arm dn := by
  have hpm : p ∈ l1 ++ p :: l2 := by simp
  have hsep := h.sep
  have hlt := h.lt
  have hmem : ∀ r ∈ l1 ++ l2, r ∈ l1 ++ p :: l2 := by intro r hr; rcases List.mem_append.1 hr with hr | hr <;> simp [hr]
  have hdis : ∀ r ∈ l1 ++ l2, ∀ k ∈ r.blocks, k ∉ p.blocks := by
    intro r hr k hkr hkp
    simp only [foot, List.flatMap_append, List.flatMap_cons] at hsep
    rw [List.nodup_cons, List.nodup_cons] at hsep
    have h3 := hsep.2.2
    rw [List.nodup_append] at h3
    obtain ⟨_, h4, h5⟩ := h3
    rw [List.nodup_append] at h4
    rcases List.mem_append.1 hr with hr | hr
    · exact h5 k (List.mem_flatMap.2 ⟨r, hr, hkr⟩) k (List.mem_append.2 (.inl hkp)) rfl
    · exact h4.2.2 k hkp k (List.mem_flatMap.2 ⟨r, hr, hkr⟩) rfl
  have hqb : ∀ k ∈ q.blocks, k ∈ p.blocks ∨ w.heap.size ≤ k := by
    intro k hk
    rcases List.mem_cons.1 hk with rfl | hk
    · exact .inl (by rw [hblk]; exact List.mem_cons_self ..)
    · rcases hv k (by simpa using hk) with h' | h'
      · exact .inl (List.mem_cons_of_mem _ (by simp [h']))
      · exact .inr h'
  refine ⟨hk.heap h.fb (h.ne.2 p hpm).1, ?_, ?_, by simpa [hn] using h.names, by simpa [hb] using h.borns, ?_, ?_, h.lim0, h.arm0⟩
  · have := hk.heap h.map (h.ne.2 p hpm).2
    rw [entriesOf_mid] at this ⊢
    rw [show q.entry = p.entry by simp [PF.entry, hn, hb, hblk]]
    exact this
  · intro r hr
    rcases List.mem_append.1 hr with hr' | hr'
    · exact (h.at_ r (by simp [hr'])).kept hk (hdis r (by simp [hr']))
    · rcases List.mem_cons.1 hr' with rfl | hr'
      · exact hq
      · exact (h.at_ r (by simp [hr'])).kept hk (hdis r (by simp [hr']))
  · intro r hr
    rcases List.mem_append.1 hr with hr' | hr'
    · exact h.old r (by simp [hr'])
    · rcases List.mem_cons.1 hr' with rfl | hr'
      · rw [hb]; exact h.old p hpm
      · exact h.old r (by simp [hr'])
  · have hqn : q.blocks.Nodup := by
      unfold PF.blocks
      rw [List.nodup_cons]
      refine ⟨?_, by cases q.val.ownBlock <;> simp⟩
      intro hm
      rcases hv q.blk (by simpa using hm) with h' | h'
      · have hpn : p.blocks.Nodup := by
          simp only [foot, List.flatMap_append, List.flatMap_cons] at hsep
          rw [List.nodup_cons, List.nodup_cons] at hsep
          exact (List.nodup_append.1 (List.nodup_append.1 hsep.2.2).2.1).1
        unfold PF.blocks at hpn
        rw [List.nodup_cons] at hpn
        exact hpn.1 (by rw [← hblk]; simp [h'])
      · have := hlt q.blk (by rw [hblk]; exact mem_foot hpm (List.mem_cons_self ..)); omega
    have notq : ∀ k ∈ foot F M (l1 ++ p :: l2), k ∉ p.blocks → k ∉ q.blocks := by
      intro k hk hkp hkq
      rcases hqb k hkq with h' | h'
      · exact hkp h'
      · have := hlt k hk; omega
    simp only [foot, List.flatMap_append, List.flatMap_cons] at hsep ⊢
    rw [List.nodup_cons, List.nodup_cons] at hsep ⊢
    obtain ⟨s1, s2, s3⟩ := hsep
    rw [List.nodup_append] at s3
    obtain ⟨s4, s5, s6⟩ := s3
    rw [List.nodup_append] at s5
    obtain ⟨s7, s8, s9⟩ := s5
    have inf : ∀ r ∈ l1 ++ l2, ∀ k ∈ r.blocks, k ∉ q.blocks := fun r hr k hkr => notq k (mem_foot (hmem r hr) hkr) (hdis r hr k hkr)
    refine ⟨?_, ?_, ?_⟩
    · intro hm
      simp only [List.mem_cons, List.mem_append] at hm s1
      rcases hm with hm | hm | hm | hm
      · exact s1 (.inl hm)
      · exact s1 (.inr (.inl hm))
      · exact notq F (by simp [foot]) (h.ne.2 p hpm).1 hm
      · exact s1 (.inr (.inr (.inr hm)))
    · intro hm
      simp only [List.mem_append] at hm s2
      rcases hm with hm | hm | hm
      · exact s2 (.inl hm)
      · exact notq M (by simp [foot]) (h.ne.2 p hpm).2 hm
      · exact s2 (.inr (.inr hm))
    · rw [List.nodup_append]
      refine ⟨s4, ?_, ?_⟩
      · rw [List.nodup_append]
        refine ⟨hqn, s8, ?_⟩
        intro a ha b hb e
        subst e
        obtain ⟨r, hr, hkr⟩ := List.mem_flatMap.1 hb
        exact inf r (by simp [hr]) a hkr ha
      · intro a ha b hb e
        subst e
        rcases List.mem_append.1 hb with hb | hb
        · obtain ⟨r, hr, hkr⟩ := List.mem_flatMap.1 ha
          exact inf r (by simp [hr]) a hkr hb
        · exact s6 a ha a (List.mem_append.2 (.inr hb)) rfl
end Go.Proofs.YtefpigakhhfcaaaDoor
end
