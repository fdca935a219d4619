import Derived.Test.YtcifhfdjigfeiaaGreatDoorProg
import Derived.Test.YtcifhfdjigfeiaaGreatDoorVa
import Derived.WalkSpells
import Derived.WalkLawsBesides
import Derived.Maps.RangeRun
import Derived.Maps.AppendAt
import Derived.Deep.QuietTactic
import Derived.BigQuiet
/-! How *files.Files lies in memory: its block, its map, each file's block and bytes; how that abides what is written. -/
section
set_option linter.unusedVariables false
set_option linter.unusedSimpArgs false
namespace Go.Proofs.YtcifhfdjigfeiaaGreatDoor
open Go.RowKit

/-- A byte as a cell. -/
def bv (x : UInt8) : Value := .int .u8 (x.toNat : Int)
/-- What a slice of bytes reads as. -/
def Bs (w : World) (A : Option Addr) (xs : List UInt8) : Prop :=
  (A = none → xs = []) ∧ ∀ ad, A = some ad → ∀ (j : Nat) u, (xs.map bv)[j]? = some u → w.cell? (ad.add j) = some u
theorem Bs.kept {S : Nat → Prop} {w w' : World} {A : Option Addr} {xs : List UInt8} (h : Bs w A xs) (hk : Kept S w w') (hS : ∀ ad, A = some ad → ¬ S ad.block) : Bs w' A xs :=
  ⟨h.1, fun ad e j u hu => hk.cell (h.2 ad e j u hu) (by
    have : (ad.add j).block = ad.block := by unfold Addr.add; split <;> rfl
    rw [this]; exact hS ad e)⟩
theorem Bs.nil (w : World) (A : Option Addr) : Bs w A [] := ⟨fun _ => rfl, fun _ _ j u hu => by simp at hu⟩
theorem bv_one (xs : List UInt8) : ∀ u ∈ xs.map bv, u.oneCell' = true := by simp [bv, Value.oneCell']
theorem Bs.of_own {w : World} {base n : Nat} {v : Value} {xs : List UInt8} (h : w.ownsRow base 5 1 v n (xs.map bv)) : ∃ A c, v = .slice A n c ∧ n = xs.length ∧ Bs w A xs ∧ (A = none → c = 0) ∧ ∀ ad, A = some ad → v.ownBlock = some ad.block := by
  have hn : n = xs.length := by have := h.1; simpa using this.symm
  rcases h.2 with ⟨rfl, h0⟩ | ⟨g, cap, cur, rfl, _, hh, _, _, hc, ht⟩
  · have : xs = [] := List.eq_nil_of_length_eq_zero (by omega)
    exact ⟨none, 0, by rw [h0], hn, by rw [this]; exact Bs.nil _ _, fun _ => rfl, fun ad e => by cases e⟩
  · refine ⟨_, cap, rfl, hn, ⟨fun e => (by cases e), fun ad e j u hu => ?_⟩, fun e => (by cases e), fun ad e => (by cases e; rfl)⟩
    cases e
    rw [← ht] at hu
    have hj := (List.getElem?_eq_some_iff.1 hu).1
    simp at hj
    rw [List.getElem?_take_of_lt (by omega)] at hu
    have e1 : (⟨g, 0, none⟩ : Addr).add j = ⟨g, j, none⟩ := by unfold Addr.add; split <;> simp_all
    rw [e1]
    simp [World.cell?, hh]
    simpa using hu

/-- A file, and where it lies. -/
structure PF where
  name : ByteArray
  b : List UInt8
  safe : Nat
  blk : Nat
  val : Value
  born : Nat
def PF.entry (p : PF) : MapEntry := ⟨.string p.name, .pointer (some ⟨p.blk, 0, none⟩), p.born⟩
def entriesOf (ps : List PF) : Array MapEntry := (ps.map PF.entry).toArray
def PF.blocks (p : PF) : List Nat := p.blk :: p.val.ownBlock.toList
structure PF.At (w : World) (p : PF) : Prop where
  cell : w.heap[p.blk]? = some (.cells #[p.val, .int .i64 p.safe] 70 (0, 0))
  own : w.ownsRow 0 5 1 p.val p.b.length (p.b.map bv)
  safe : p.safe ≤ p.b.length
  len : p.b.length ≤ 4194304
def foot (F M : Nat) (ps : List PF) : List Nat := F :: M :: ps.flatMap PF.blocks
structure FilesAt (w : World) (F M : Nat) (ps : List PF) (clock : Nat) (lim arm : Int) (dn : Bool) : Prop where
  fb : w.heap[F]? = some (.cells #[.map (some M), .int .i64 lim, .int .i64 arm, .bool dn] 59 (0, 0))
  map : w.heap[M]? = some (.map (entriesOf ps) clock)
  at_ : ∀ p ∈ ps, p.At w
  names : (ps.map PF.name).Nodup
  borns : (ps.map PF.born).Nodup
  old : ∀ p ∈ ps, p.born < clock
  sep : (foot F M ps).Nodup
  lim0 : 0 ≤ lim ∧ lim ≤ 4194304
  arm0 : 0 ≤ arm ∧ arm ≤ 9223372036854775807

theorem own_lt' {w : World} {base : Nat} {e : TypeId} {size n : Nat} {v : Value} {xs : List Value} (h : w.ownsRow base e size v n xs) (k : Nat) (hk : v.ownBlock = some k) : k < w.heap.size := by
  rcases h.2 with ⟨rfl, _⟩ | ⟨g, cap, cur, rfl, hb, hh, _⟩
  · simp [Value.ownBlock] at hk
  · have : g = k := by simpa [Value.ownBlock] using hk
    subst this
    exact (Array.getElem?_eq_some_iff.1 hh).1
theorem own_kept {S : Nat → Prop} {w w' : World} {base : Nat} {e : TypeId} {size n : Nat} {v : Value} {xs : List Value} (h : w.ownsRow base e size v n xs) (hk : Kept S w w') (hS : ∀ k, v.ownBlock = some k → ¬ S k) : w'.ownsRow base e size v n xs := by
  refine ⟨h.1, ?_⟩
  rcases h.2 with h' | ⟨g, cap, cur, rfl, hb, hh, r⟩
  · exact .inl h'
  · exact .inr ⟨g, cap, cur, rfl, hb, hk.heap hh (hS g rfl), r⟩
theorem PF.At.kept {S : Nat → Prop} {w w' : World} {p : PF} (h : p.At w) (hk : Kept S w w') (hS : ∀ k ∈ p.blocks, ¬ S k) : p.At w' :=
  ⟨hk.heap h.cell (hS _ (List.mem_cons_self ..)), own_kept h.own hk (fun k e => hS k (List.mem_cons_of_mem _ (by simp [e]))), h.safe, h.len⟩
theorem PF.At.lt {w : World} {p : PF} (h : p.At w) : ∀ k ∈ p.blocks, k < w.heap.size := by
  intro k hk
  rcases List.mem_cons.1 hk with rfl | hk
  · exact (Array.getElem?_eq_some_iff.1 h.cell).1
  · exact own_lt' h.own k (by simpa using hk)
variable {w w' : World} {F M : Nat} {ps l1 l2 : List PF} {p q : PF} {clock : Nat} {lim arm : Int} {dn : Bool}
theorem FilesAt.lt (h : FilesAt w F M ps clock lim arm dn) : ∀ k ∈ foot F M ps, k < w.heap.size := by
  intro k hk
  rcases List.mem_cons.1 hk with rfl | hk
  · exact (Array.getElem?_eq_some_iff.1 h.fb).1
  · rcases List.mem_cons.1 hk with rfl | hk
    · exact (Array.getElem?_eq_some_iff.1 h.map).1
    · obtain ⟨p, hp, hk⟩ := List.mem_flatMap.1 hk
      exact (h.at_ p hp).lt k hk
theorem mem_foot (hp : p ∈ ps) {k : Nat} (hk : k ∈ p.blocks) : k ∈ foot F M ps :=
  List.mem_cons_of_mem _ (List.mem_cons_of_mem _ (List.mem_flatMap.2 ⟨p, hp, hk⟩))
theorem FilesAt.kept {S : Nat → Prop} (h : FilesAt w F M ps clock lim arm dn) (hk : Kept S w w') (hS : ∀ k ∈ foot F M ps, ¬ S k) : FilesAt w' F M ps clock lim arm dn :=
  ⟨hk.heap h.fb (hS _ (by simp [foot])), hk.heap h.map (hS _ (by simp [foot])), fun p hp => (h.at_ p hp).kept hk (fun k hk => hS k (mem_foot hp hk)), h.names, h.borns, h.old, h.sep, h.lim0, h.arm0⟩
theorem FilesAt.ne (h : FilesAt w F M ps clock lim arm dn) : F ≠ M ∧ (∀ p ∈ ps, F ∉ p.blocks ∧ M ∉ p.blocks) := by
  have hs := h.sep
  unfold foot at hs
  rw [List.nodup_cons, List.nodup_cons] at hs
  refine ⟨fun e => hs.1 (by simp [e]), fun p hp => ⟨fun hk => hs.1 (List.mem_cons_of_mem _ (List.mem_flatMap.2 ⟨p, hp, hk⟩)), fun hk => hs.2.1 (List.mem_flatMap.2 ⟨p, hp, hk⟩)⟩⟩
/-- The files' own block turns. -/
theorem FilesAt.own (h : FilesAt w F M ps clock lim arm dn) {lim' arm' : Int} {dn' : Bool} (hk : Kept (fun k => k = F) w w')
    (hb : w'.heap[F]? = some (.cells #[.map (some M), .int .i64 lim', .int .i64 arm', .bool dn'] 59 (0, 0))) (hl : 0 ≤ lim' ∧ lim' ≤ 4194304) (ha : 0 ≤ arm' ∧ arm' ≤ 9223372036854775807) : FilesAt w' F M ps clock lim' arm' dn' :=
  ⟨hb, hk.heap h.map (fun e => h.ne.1 e.symm), fun p hp => (h.at_ p hp).kept hk (fun k hkk e => (h.ne.2 p hp).1 (by subst e; exact hkk)), h.names, h.borns, h.old, h.sep, hl, ha⟩

theorem entriesOf_mid : entriesOf (l1 ++ p :: l2) = entriesOf l1 ++ #[p.entry] ++ entriesOf l2 := by simp [entriesOf]
/-- One file turns. -/
theorem FilesAt.replace (h : FilesAt w F M (l1 ++ p :: l2) clock lim arm dn) (hk : Kept (fun k => k ∈ p.blocks) w w') (hq : q.At w')
    (hn : q.name = p.name) (hb : q.born = p.born) (hblk : q.blk = p.blk) (hv : ∀ k, q.val.ownBlock = some k → p.val.ownBlock = some k ∨ w.heap.size ≤ k) : FilesAt w' F M (l1 ++ q :: l2) clock lim arm dn := by
  have hpm : p ∈ l1 ++ p :: l2 := by simp
  have hsep := h.sep
  have hlt := h.lt
  have hmem : ∀ r ∈ l1 ++ l2, r ∈ l1 ++ p :: l2 := by intro r hr; rcases List.mem_append.1 hr with hr | hr <;> simp [hr]
  have hdis : ∀ r ∈ l1 ++ l2, ∀ k ∈ r.blocks, k ∉ p.blocks := by
    intro r hr k hkr hkp
    simp only [foot, List.flatMap_append, List.flatMap_cons] at hsep
    rw [List.nodup_cons, List.nodup_cons] at hsep
    have h3 := hsep.2.2
    rw [List.nodup_append] at h3
    obtain ⟨_, h4, h5⟩ := h3
    rw [List.nodup_append] at h4
    rcases List.mem_append.1 hr with hr | hr
    · exact h5 k (List.mem_flatMap.2 ⟨r, hr, hkr⟩) k (List.mem_append.2 (.inl hkp)) rfl
    · exact h4.2.2 k hkp k (List.mem_flatMap.2 ⟨r, hr, hkr⟩) rfl
  have hqb : ∀ k ∈ q.blocks, k ∈ p.blocks ∨ w.heap.size ≤ k := by
    intro k hk
    rcases List.mem_cons.1 hk with rfl | hk
    · exact .inl (by rw [hblk]; exact List.mem_cons_self ..)
    · rcases hv k (by simpa using hk) with h' | h'
      · exact .inl (List.mem_cons_of_mem _ (by simp [h']))
      · exact .inr h'
  refine ⟨hk.heap h.fb (h.ne.2 p hpm).1, ?_, ?_, by simpa [hn] using h.names, by simpa [hb] using h.borns, ?_, ?_, h.lim0, h.arm0⟩
  · have := hk.heap h.map (h.ne.2 p hpm).2
    rw [entriesOf_mid] at this ⊢
    rw [show q.entry = p.entry by simp [PF.entry, hn, hb, hblk]]
    exact this
  · intro r hr
    rcases List.mem_append.1 hr with hr' | hr'
    · exact (h.at_ r (by simp [hr'])).kept hk (hdis r (by simp [hr']))
    · rcases List.mem_cons.1 hr' with rfl | hr'
      · exact hq
      · exact (h.at_ r (by simp [hr'])).kept hk (hdis r (by simp [hr']))
  · intro r hr
    rcases List.mem_append.1 hr with hr' | hr'
    · exact h.old r (by simp [hr'])
    · rcases List.mem_cons.1 hr' with rfl | hr'
      · rw [hb]; exact h.old p hpm
      · exact h.old r (by simp [hr'])
  · have hqn : q.blocks.Nodup := by
      unfold PF.blocks
      rw [List.nodup_cons]
      refine ⟨?_, by cases q.val.ownBlock <;> simp⟩
      intro hm
      rcases hv q.blk (by simpa using hm) with h' | h'
      · have hpn : p.blocks.Nodup := by
          simp only [foot, List.flatMap_append, List.flatMap_cons] at hsep
          rw [List.nodup_cons, List.nodup_cons] at hsep
          exact (List.nodup_append.1 (List.nodup_append.1 hsep.2.2).2.1).1
        unfold PF.blocks at hpn
        rw [List.nodup_cons] at hpn
        exact hpn.1 (by rw [← hblk]; simp [h'])
      · have := hlt q.blk (by rw [hblk]; exact mem_foot hpm (List.mem_cons_self ..)); omega
    have notq : ∀ k ∈ foot F M (l1 ++ p :: l2), k ∉ p.blocks → k ∉ q.blocks := by
      intro k hk hkp hkq
      rcases hqb k hkq with h' | h'
      · exact hkp h'
      · have := hlt k hk; omega
    simp only [foot, List.flatMap_append, List.flatMap_cons] at hsep ⊢
    rw [List.nodup_cons, List.nodup_cons] at hsep ⊢
    obtain ⟨s1, s2, s3⟩ := hsep
    rw [List.nodup_append] at s3
    obtain ⟨s4, s5, s6⟩ := s3
    rw [List.nodup_append] at s5
    obtain ⟨s7, s8, s9⟩ := s5
    have inf : ∀ r ∈ l1 ++ l2, ∀ k ∈ r.blocks, k ∉ q.blocks := fun r hr k hkr => notq k (mem_foot (hmem r hr) hkr) (hdis r hr k hkr)
    refine ⟨?_, ?_, ?_⟩
    · intro hm
      simp only [List.mem_cons, List.mem_append] at hm s1
      rcases hm with hm | hm | hm | hm
      · exact s1 (.inl hm)
      · exact s1 (.inr (.inl hm))
      · exact notq F (by simp [foot]) (h.ne.2 p hpm).1 hm
      · exact s1 (.inr (.inr (.inr hm)))
    · intro hm
      simp only [List.mem_append] at hm s2
      rcases hm with hm | hm | hm
      · exact s2 (.inl hm)
      · exact notq M (by simp [foot]) (h.ne.2 p hpm).2 hm
      · exact s2 (.inr (.inr hm))
    · rw [List.nodup_append]
      refine ⟨s4, ?_, ?_⟩
      · rw [List.nodup_append]
        refine ⟨hqn, s8, ?_⟩
        intro a ha b hb e
        subst e
        obtain ⟨r, hr, hkr⟩ := List.mem_flatMap.1 hb
        exact inf r (by simp [hr]) a hkr ha
      · intro a ha b hb e
        subst e
        rcases List.mem_append.1 hb with hb | hb
        · obtain ⟨r, hr, hkr⟩ := List.mem_flatMap.1 ha
          exact inf r (by simp [hr]) a hkr hb
        · exact s6 a ha a (List.mem_append.2 (.inr hb)) rfl
end Go.Proofs.YtcifhfdjigfeiaaGreatDoor
end

/-! What the map's operations do to *files.Files. -/
section
set_option linter.unusedVariables false
set_option linter.unusedSimpArgs false
namespace Go.Proofs.YtcifhfdjigfeiaaGreatDoor
open Go.RowKit
open Go.MapKept (bytes_beq run_checkKey run_findKey run_setObj_map)
variable {w w' : World} {F M : Nat} {ps l1 l2 : List PF} {p q : PF} {clock : Nat} {lim arm : Int} {dn : Bool}

/-- A name is not there, or stands once. -/
theorem find_name (ps : List PF) (s : ByteArray) : (∀ p ∈ ps, p.name ≠ s) ∨ ∃ l1 p l2, ps = l1 ++ p :: l2 ∧ p.name = s := by
  by_cases h : ∃ p ∈ ps, p.name = s
  · obtain ⟨p, hp, hn⟩ := h
    obtain ⟨l1, l2, e⟩ := List.append_of_mem hp
    exact .inr ⟨l1, p, l2, e, hn⟩
  · exact .inl fun p hp hn => h ⟨p, hp, hn⟩
theorem findNow_none (s : ByteArray) : ∀ (ps : List PF) (i : Nat), (∀ p ∈ ps, p.name ≠ s) → Instr.findNow .string (.string s) (ps.map PF.entry) i = some none
  | [], _, _ => rfl
  | p :: ps, i, h => by
    have hne : (s == p.name) = false := by
      cases he : s == p.name with
      | false => rfl
      | true => exact absurd ((bytes_beq s p.name).1 he).symm (h p (by simp))
    simp only [List.map_cons, Instr.findNow, PF.entry, Instr.sameNow, hne]
    exact findNow_none s ps (i + 1) fun q hq => h q (by simp [hq])
theorem findNow_mid (s : ByteArray) (p : PF) (hp : p.name = s) (l2 : List PF) : ∀ (l1 : List PF) (i : Nat), (∀ q ∈ l1, q.name ≠ s) → Instr.findNow .string (.string s) ((l1 ++ p :: l2).map PF.entry) i = some (some (i + l1.length, .pointer (some ⟨p.blk, 0, none⟩)))
  | [], i, _ => by
    have he : (s == p.name) = true := (bytes_beq s p.name).2 hp.symm
    simp [Instr.findNow, PF.entry, Instr.sameNow, he]
  | q :: l1, i, h => by
    have hne : (s == q.name) = false := by
      cases he : s == q.name with
      | false => rfl
      | true => exact absurd ((bytes_beq s q.name).1 he).symm (h q (by simp))
    simp only [List.cons_append, List.map_cons, Instr.findNow, PF.entry, Instr.sameNow, hne]
    have := findNow_mid s p hp l2 l1 (i + 1) fun r hr => h r (by simp [hr])
    rw [this]
    simp; omega
theorem names_ne (h : ((l1 ++ p :: l2).map PF.name).Nodup) : (∀ q ∈ l1, q.name ≠ p.name) ∧ ∀ q ∈ l2, q.name ≠ p.name := by
  simp only [List.map_append, List.map_cons] at h
  rw [List.nodup_append] at h
  obtain ⟨_, h2, h3⟩ := h
  rw [List.nodup_cons] at h2
  exact ⟨fun q hq e => h3 q.name (List.mem_map.2 ⟨q, hq, rfl⟩) p.name (by simp) e, fun q hq e => h2.1 (by rw [← e]; exact List.mem_map.2 ⟨q, hq, rfl⟩)⟩

theorem look_none (hM : w.heap[M]? = some (.map (entriesOf ps) clock)) (s : ByteArray) (h : ∀ p ∈ ps, p.name ≠ s) :
    (Instr.lookup 56 (.map (some M)) (.string s) true).run Tryz.prog w = .ok (.tuple #[.pointer none, .bool false]) w := by
  have hz : (zeroValue 68).run Tryz.prog w = .ok (.pointer none) w := by kernel_rfl
  have hf : Instr.findNow .string (.string s) (entriesOf ps).toList 0 = some none := by simpa [entriesOf] using findNow_none s ps 0 h
  simp only [Instr.lookup, Sem.run_bind, run_underlying Tryz.underlying56, Go.MapKept.run_getObj_map hM, Result.andThen, run_checkKey (kt := 9) Tryz.underlying9 (k := .string s) trivial, run_findKey Tryz.underlying9 hf, hz, Sem.run_pure, if_true]
theorem look_some (hM : w.heap[M]? = some (.map (entriesOf (l1 ++ p :: l2)) clock)) (hn : ∀ q ∈ l1, q.name ≠ p.name) (ok : Bool) :
    (Instr.lookup 56 (.map (some M)) (.string p.name) ok).run Tryz.prog w = .ok (if ok then .tuple #[.pointer (some ⟨p.blk, 0, none⟩), .bool true] else .pointer (some ⟨p.blk, 0, none⟩)) w := by
  have hf : Instr.findNow .string (.string p.name) (entriesOf (l1 ++ p :: l2)).toList 0 = some (some (0 + l1.length, .pointer (some ⟨p.blk, 0, none⟩))) := by simpa [entriesOf] using findNow_mid p.name p rfl l2 l1 0 hn
  simp only [Instr.lookup, Sem.run_bind, run_underlying Tryz.underlying56, Go.MapKept.run_getObj_map hM, Result.andThen, run_checkKey (kt := 9) Tryz.underlying9 (k := .string p.name) trivial, run_findKey Tryz.underlying9 hf, Sem.run_pure]
theorem upd_none (hM : w.heap[M]? = some (.map (entriesOf ps) clock)) (s : ByteArray) (v : Value) (h : ∀ p ∈ ps, p.name ≠ s) :
    (Instr.mapUpdate 56 (.map (some M)) (.string s) v).run Tryz.prog w = .ok () (w.putObj M (.map ((entriesOf ps).push { key := .string s, val := v, born := clock }) (clock + 1))) := by
  have hf : Instr.findNow .string (.string s) (entriesOf ps).toList 0 = some none := by simpa [entriesOf] using findNow_none s ps 0 h
  simp only [Instr.mapUpdate, Sem.run_bind, run_underlying Tryz.underlying56, Go.MapKept.run_getObj_map hM, Result.andThen, run_checkKey (kt := 9) Tryz.underlying9 (k := .string s) trivial, run_findKey Tryz.underlying9 hf, run_setObj_map _ hM]
  rfl
theorem modify_mid {α : Type} (f : α → α) (a : α) (l2 : List α) : ∀ (l1 : List α), (l1 ++ a :: l2).modify l1.length f = l1 ++ f a :: l2
  | [] => by simp
  | b :: l1 => by simp [modify_mid f a l2 l1]
theorem entriesOf_get : (entriesOf (l1 ++ p :: l2))[l1.length]? = some p.entry := by simp [entriesOf]
theorem stays (s : ByteArray) (w : World) : (Instr.keyThatStays (.string s) (.string s)).run Tryz.prog w = .ok (.string s) w := by
  have hs : Instr.sameBits 10000 (.string s) (.string s) = true := by
    show (s == s) = true
    exact (bytes_beq _ _).2 rfl
  unfold Instr.keyThatStays; rw [if_pos hs]; rfl
theorem upd_some (hM : w.heap[M]? = some (.map (entriesOf (l1 ++ p :: l2)) clock)) (hn : ∀ q ∈ l1, q.name ≠ p.name) (blk : Nat) :
    (Instr.mapUpdate 56 (.map (some M)) (.string p.name) (.pointer (some ⟨blk, 0, none⟩))).run Tryz.prog w = .ok () (w.putObj M (.map (entriesOf (l1 ++ { p with blk := blk } :: l2)) clock)) := by
  have hf : Instr.findNow .string (.string p.name) (entriesOf (l1 ++ p :: l2)).toList 0 = some (some (0 + l1.length, .pointer (some ⟨p.blk, 0, none⟩))) := by simpa [entriesOf] using findNow_mid p.name p rfl l2 l1 0 hn
  have hk := stays p.name w
  have he : (entriesOf (l1 ++ p :: l2)).modify (0 + l1.length) (fun e => { e with key := .string p.name, val := .pointer (some ⟨blk, 0, none⟩) }) = entriesOf (l1 ++ { p with blk := blk } :: l2) := by
    apply Array.ext'
    have := modify_mid (fun e : MapEntry => { e with key := .string p.name, val := .pointer (some ⟨blk, 0, none⟩) }) p.entry (l2.map PF.entry) (l1.map PF.entry)
    simp only [List.length_map] at this
    simpa [entriesOf, PF.entry] using this
  simp only [Instr.mapUpdate, Sem.run_bind, run_underlying Tryz.underlying56, Go.MapKept.run_getObj_map hM, Result.andThen, run_checkKey (kt := 9) Tryz.underlying9 (k := .string p.name) trivial, run_findKey Tryz.underlying9 hf]
  have hg : (((entriesOf (l1 ++ p :: l2))[0 + l1.length]?).map (·.key)).getD (.string p.name) = .string p.name := by
    rw [Nat.zero_add, entriesOf_get]; rfl
  rw [hg]
  simp only [Sem.run_bind, hk, Result.andThen, run_setObj_map _ hM, he, World.putObj]
theorem del_some (hM : w.heap[M]? = some (.map (entriesOf (l1 ++ p :: l2)) clock)) (hn : ∀ q ∈ l1, q.name ≠ p.name) (ty : TypeId) :
    (Builtin.delete_ #[56, 9] ty #[.map (some M), .string p.name]).run Tryz.prog w = .ok (.tuple #[]) (w.putObj M (.map (entriesOf (l1 ++ l2)) clock)) := by
  have hf : Instr.findNow .string (.string p.name) (entriesOf (l1 ++ p :: l2)).toList 0 = some (some (0 + l1.length, .pointer (some ⟨p.blk, 0, none⟩))) := by simpa [entriesOf] using findNow_mid p.name p rfl l2 l1 0 hn
  have he : (entriesOf (l1 ++ p :: l2)).eraseIdxIfInBounds (0 + l1.length) = entriesOf (l1 ++ l2) := by
    have hlt : l1.length < (entriesOf (l1 ++ p :: l2)).size := by simp [entriesOf]
    unfold Array.eraseIdxIfInBounds
    rw [Nat.zero_add, dif_pos hlt]
    apply Array.ext'
    simp [entriesOf, List.eraseIdx_append_of_length_le]
  simp [Builtin.delete_, run_underlying Tryz.underlying56, Go.MapKept.run_getObj_map hM, Result.andThen, run_checkKey (kt := 9) Tryz.underlying9 (k := .string p.name) trivial, run_findKey Tryz.underlying9 hf, run_setObj_map _ hM, World.putObj]
  rw [Nat.zero_add] at he
  rw [he]
/-- No such file: delete changes nothing (it is stored as it was). -/
theorem foot_append : foot F M (l1 ++ l2) = F :: M :: (l1.flatMap PF.blocks ++ l2.flatMap PF.blocks) := by simp [foot]
/-- A new file. -/
theorem FilesAt.insert (h : FilesAt w F M ps clock lim arm dn) (hk : Kept (fun k => k = M) w w')
    (hm : w'.heap[M]? = some (.map ((entriesOf ps).push p.entry) (clock + 1))) (hb : p.born = clock) (hp : p.At w') (hn : ∀ q ∈ ps, q.name ≠ p.name)
    (hd : ∀ k ∈ p.blocks, k ∉ foot F M ps) (hnd : p.blocks.Nodup) : FilesAt w' F M (ps ++ [p]) (clock + 1) lim arm dn := by
  refine ⟨hk.heap h.fb (fun e => h.ne.1 e), by rw [hm]; simp [entriesOf], ?_, ?_, ?_, ?_, ?_, h.lim0, h.arm0⟩
  · intro r hr
    rcases List.mem_append.1 hr with hr | hr
    · exact (h.at_ r hr).kept hk (fun k hkk e => (h.ne.2 r hr).2 (by subst e; exact hkk))
    · simp at hr; subst hr; exact hp
  · rw [List.map_append, List.nodup_append]
    refine ⟨h.names, by simp, ?_⟩
    intro a ha b hb e
    obtain ⟨q, hq, rfl⟩ := List.mem_map.1 ha
    simp at hb; subst hb
    exact hn q hq e
  · rw [List.map_append, List.nodup_append]
    refine ⟨h.borns, by simp, ?_⟩
    intro a ha b hb' e
    obtain ⟨q, hq, rfl⟩ := List.mem_map.1 ha
    simp at hb'; subst hb'
    have := h.old q hq; omega
  · intro r hr
    rcases List.mem_append.1 hr with hr | hr
    · have := h.old r hr; omega
    · simp at hr; subst hr; omega
  · have hs := h.sep
    have e1 : foot F M (ps ++ [p]) = foot F M ps ++ p.blocks := by simp [foot]
    rw [e1, List.nodup_append]
    exact ⟨hs, hnd, fun a ha b hb e => hd b hb (by subst e; exact ha)⟩
/-- A file goes. -/
theorem FilesAt.erase (h : FilesAt w F M (l1 ++ p :: l2) clock lim arm dn) (hk : Kept (fun k => k = M) w w')
    (hm : w'.heap[M]? = some (.map (entriesOf (l1 ++ l2)) clock)) : FilesAt w' F M (l1 ++ l2) clock lim arm dn := by
  have hmem : ∀ r ∈ l1 ++ l2, r ∈ l1 ++ p :: l2 := by intro r hr; rcases List.mem_append.1 hr with hr | hr <;> simp [hr]
  have hsub : (l1 ++ l2).Sublist (l1 ++ p :: l2) := List.Sublist.append (List.Sublist.refl _) (List.sublist_cons_self ..)
  refine ⟨hk.heap h.fb (fun e => h.ne.1 e), hm, ?_, (hsub.map _).nodup h.names, (hsub.map _).nodup h.borns, fun r hr => h.old r (hmem r hr), ?_, h.lim0, h.arm0⟩
  · intro r hr
    exact (h.at_ r (hmem r hr)).kept hk (fun k hkk e => (h.ne.2 r (hmem r hr)).2 (by subst e; exact hkk))
  · refine List.Sublist.nodup ?_ h.sep
    simp only [foot, List.flatMap_append, List.flatMap_cons]
    exact List.Sublist.cons_cons _ (List.Sublist.cons_cons _ (List.Sublist.append (List.Sublist.refl _) (List.sublist_append_right ..)))
/-- An entry comes to lead to a file that no other one leads to. -/
theorem FilesAt.point (h : FilesAt w F M (l1 ++ q :: l2) clock lim arm dn) (hk : Kept (fun k => k = M) w w') (hpn : p.name = q.name) (hpb : p.born = q.born)
    (hm : w'.heap[M]? = some (.map (entriesOf (l1 ++ p :: l2)) clock)) (hp : p.At w')
    (hd : ∀ k ∈ p.blocks, k ∉ foot F M (l1 ++ q :: l2)) (hnd : p.blocks.Nodup) : FilesAt w' F M (l1 ++ p :: l2) clock lim arm dn := by
  refine ⟨hk.heap h.fb (fun e => h.ne.1 e), hm, ?_, by simpa [hpn] using h.names, by simpa [hpb] using h.borns, ?_, ?_, h.lim0, h.arm0⟩
  · intro r hr
    rcases List.mem_append.1 hr with hr' | hr'
    · exact (h.at_ r (by simp [hr'])).kept hk (fun k hkk e => (h.ne.2 r (by simp [hr'])).2 (by subst e; exact hkk))
    · rcases List.mem_cons.1 hr' with rfl | hr'
      · exact hp
      · exact (h.at_ r (by simp [hr'])).kept hk (fun k hkk e => (h.ne.2 r (by simp [hr'])).2 (by subst e; exact hkk))
  · intro r hr
    rcases List.mem_append.1 hr with hr' | hr'
    · exact h.old r (by simp [hr'])
    · rcases List.mem_cons.1 hr' with rfl | hr'
      · rw [hpb]; exact h.old q (by simp)
      · exact h.old r (by simp [hr'])
  · have hs := h.sep
    have hd' := hd
    simp only [foot, List.flatMap_append, List.flatMap_cons] at hs hd ⊢
    rw [List.nodup_cons, List.nodup_cons] at hs ⊢
    obtain ⟨s1, s2, s3⟩ := hs
    rw [List.nodup_append] at s3
    obtain ⟨s4, s5, s6⟩ := s3
    rw [List.nodup_append] at s5
    obtain ⟨s7, s8, s9⟩ := s5
    simp only [List.mem_cons, List.mem_append] at s1 s2 hd
    refine ⟨?_, ?_, ?_⟩
    · simp only [List.mem_cons, List.mem_append]
      rintro (e | e | e | e)
      · exact s1 (.inl e)
      · exact s1 (.inr (.inl e))
      · exact hd F e (.inl rfl)
      · exact s1 (.inr (.inr (.inr e)))
    · simp only [List.mem_append]
      rintro (e | e | e)
      · exact s2 (.inl e)
      · exact hd M e (.inr (.inl rfl))
      · exact s2 (.inr (.inr e))
    · rw [List.nodup_append]
      refine ⟨s4, ?_, ?_⟩
      · rw [List.nodup_append]
        exact ⟨hnd, s8, fun a ha b hb e => hd a ha (by subst e; exact .inr (.inr (.inr (.inr hb))))⟩
      · intro a ha b hb e
        subst e
        rcases List.mem_append.1 hb with hb | hb
        · exact hd a hb (.inr (.inr (.inl ha)))
        · exact s6 a ha a (List.mem_append.2 (.inr hb)) rfl
end Go.Proofs.YtcifhfdjigfeiaaGreatDoor
end

/-! The small functions of package files: bound, ready, hit, there, Arm, Limit, Down, Used, Clone. -/
section
set_option linter.unusedVariables false
set_option linter.unusedSimpArgs false
namespace Go.Proofs.YtcifhfdjigfeiaaGreatDoor
open Go.RowKit

/-- The block of the files' own fields. -/
def FB (w : World) (F M : Nat) (lim arm : Int) (dn : Bool) : Prop := w.heap[F]? = some (.cells #[.map (some M), .int .i64 lim, .int .i64 arm, .bool dn] 59 (0, 0))
theorem FB.c0 {w : World} {F M : Nat} {lim arm : Int} {dn : Bool} (h : FB w F M lim arm dn) : w.cell? ⟨F, 0, none⟩ = some (.map (some M)) := by simp [World.cell?, show w.heap[F]? = _ from h]
theorem FB.c1 {w : World} {F M : Nat} {lim arm : Int} {dn : Bool} (h : FB w F M lim arm dn) : w.cell? ⟨F, 1, none⟩ = some (.int .i64 lim) := by simp [World.cell?, show w.heap[F]? = _ from h]
theorem FB.c2 {w : World} {F M : Nat} {lim arm : Int} {dn : Bool} (h : FB w F M lim arm dn) : w.cell? ⟨F, 2, none⟩ = some (.int .i64 arm) := by simp [World.cell?, show w.heap[F]? = _ from h]
theorem FB.c3 {w : World} {F M : Nat} {lim arm : Int} {dn : Bool} (h : FB w F M lim arm dn) : w.cell? ⟨F, 3, none⟩ = some (.bool dn) := by simp [World.cell?, show w.heap[F]? = _ from h]
theorem FB.fz {w : World} {F M : Nat} {lim arm : Int} {dn : Bool} (h : FB w F M lim arm dn) (i : Nat) : w.frozen? ⟨F, i, none⟩ = false := by simp [World.frozen?, show w.heap[F]? = _ from h]
theorem FB.s1 {w : World} {F M : Nat} {lim arm : Int} {dn : Bool} (h : FB w F M lim arm dn) (v : Int) : FB (w.setCell ⟨F, 1, none⟩ (.int .i64 v)) F M v arm dn := by
  unfold FB World.setCell; simp only [Array.getElem?_modify, if_true, show w.heap[F]? = _ from h]; rfl
theorem FB.s2 {w : World} {F M : Nat} {lim arm : Int} {dn : Bool} (h : FB w F M lim arm dn) (v : Int) : FB (w.setCell ⟨F, 2, none⟩ (.int .i64 v)) F M lim v dn := by
  unfold FB World.setCell; simp only [Array.getElem?_modify, if_true, show w.heap[F]? = _ from h]; rfl
theorem FB.s3 {w : World} {F M : Nat} {lim arm : Int} {dn : Bool} (h : FB w F M lim arm dn) (v : Bool) : FB (w.setCell ⟨F, 3, none⟩ (.bool v)) F M lim arm v := by
  unfold FB World.setCell; simp only [Array.getElem?_modify, if_true, show w.heap[F]? = _ from h]; rfl
theorem kF (w : World) (F i : Nat) (v : Value) : Kept (fun k => k = F) w (w.setCell ⟨F, i, none⟩ v) := (Kept.refl (fun k => k = F) w).setCell (p := ⟨F, i, none⟩) (fun _ => rfl) v

def boundI (n : Int) : Int := if n ≤ 0 then 0 else if 4194304 ≤ n then 4194304 else n
theorem boundI_r (n : Int) : 0 ≤ boundI n ∧ boundI n ≤ 4194304 := by unfold boundI; split <;> (try split) <;> omega
set_option maxHeartbeats 400000 in
theorem bound_any (n : Int) (w : World) : Calls Tryz.prog 24 #[.int .i64 n] w fun e w' => e = .returned (.int .i64 (boundI n)) ∧ w = w' := by
  by_cases h2 : 4194304 < n
  · have HB := Lib.hid (show boundI n = 4194304 by unfold boundI; rw [if_neg (by omega), if_pos (by omega)])
    go_enter Tryz.func24, Tryz.ntmps24
    go_wp2
    go_ret
    exact ⟨ret_int HB.out.symm, rfl⟩
  · have h2' : n ≤ 4194304 := by omega
    by_cases h1 : n ≤ 0
    · have HB := Lib.hid (show boundI n = 0 by unfold boundI; rw [if_pos h1])
      go_enter Tryz.func24, Tryz.ntmps24
      go_wp2
      go_ret
      exact ⟨ret_int HB.out.symm, rfl⟩
    · have h1' : 0 < n := by omega
      have HB := Lib.hid (show boundI n = n by unfold boundI; rw [if_neg h1]; split <;> omega)
      go_enter Tryz.func24, Tryz.ntmps24
      go_wp2
      go_ret
      exact ⟨ret_int HB.out.symm, rfl⟩

set_option maxHeartbeats 400000 in
theorem ready_nil (w : World) : Calls Tryz.prog 68 #[.pointer none] w fun e w' => e = .returned (.int .i64 2) ∧ w = w' := by
  go_enter Tryz.func68, Tryz.ntmps68
  go_wp2
  go_ret
  exact ⟨rfl, rfl⟩
def rdy (dn : Bool) : Int := if dn then 13 else 0
set_option maxHeartbeats 400000 in
theorem ready_any (w : World) (F M : Nat) (lim arm : Int) (dn : Bool) (h : FB w F M lim arm dn) : Calls Tryz.prog 68 #[.pointer (some ⟨F, 0, none⟩)] w fun e w' => e = .returned (.int .i64 (rdy dn)) ∧ w = w' := by
  have h3 := h.c3
  clear h
  cases dn
  · go_enter Tryz.func68, Tryz.ntmps68
    go_wp2
    go_ret
    exact ⟨rfl, rfl⟩
  · go_enter Tryz.func68, Tryz.ntmps68
    go_wp2
    go_ret
    exact ⟨rfl, rfl⟩
def decA (arm : Int) : Int := if arm = 0 then 0 else arm - 1
theorem decA_r {arm : Int} (h : 0 ≤ arm ∧ arm ≤ 9223372036854775807) : 0 ≤ decA arm ∧ decA arm ≤ 9223372036854775807 := by unfold decA; split <;> omega
def HitPost (w : World) (F M : Nat) (lim arm : Int) (e : Ending) (w' : World) : Prop :=
  e = .returned (.bool (decide (arm = 1))) ∧ FB w' F M lim (decA arm) (decide (arm = 1)) ∧ Kept (fun k => k = F) w w'
set_option maxHeartbeats 400000 in
theorem hit_any (w : World) (F M : Nat) (lim arm : Int) (h : FB w F M lim arm false) (ha : 0 ≤ arm ∧ arm ≤ 9223372036854775807) : Calls Tryz.prog 50 #[.pointer (some ⟨F, 0, none⟩)] w (HitPost w F M lim arm) := by
  obtain ⟨ha0, ha1⟩ := ha
  have H := Lib.hid h
  by_cases h0 : arm = 0
  · subst h0
    have h2 := h.c2
    clear h
    go_enter Tryz.func50, Tryz.ntmps50
    go_wp2
    go_ret
    exact ⟨rfl, H.out, Kept.refl _ _⟩
  · have h2 := h.c2
    have f2 := h.fz 2
    have f3 := h.fz 3
    have h3 := h.c3
    have h0' : (arm == 0) = false := by simp [h0]
    by_cases h1 : arm = 1
    · subst h1
      clear h
      go_enter Tryz.func50, Tryz.ntmps50
      go_wp2
      go_ret
      exact ⟨rfl, (H.out.s2 0).s3 true, (kF _ _ _ _).trans' (kF _ _ _ _)⟩
    · have h1' : (arm - 1 == 0) = false := by rw [beq_eq_false_iff_ne]; omega
      have Hd := Lib.hid (show decide (arm = 1) = false by simp [h1])
      have He := Lib.hid (show decA arm = arm - 1 by unfold decA; rw [if_neg h0])
      have hgt : 1 < arm := by omega
      clear h h0 h1
      go_enter Tryz.func50, Tryz.ntmps50
      go_wp2
      go_ret
      unfold HitPost
      rw [Hd.out, He.out]
      exact ⟨rfl, (H.out.s2 (arm - 1)).s3 false, (kF _ _ _ _).trans' (kF _ _ _ _)⟩

/-! ### there -/
set_option maxHeartbeats 400000 in
theorem there_nil (s : ByteArray) (w : World) : Calls Tryz.prog 49 #[.pointer none, .string s] w fun e w' => e = .returned (.tuple #[.pointer none, .int .i64 2]) ∧ w = w' := by
  go_enter Tryz.func49, Tryz.ntmps49
  go_wp2_with (go_at_call 68; refine (ready_nil _).mono ?_; rintro e w' ⟨rfl, rfl⟩)
  go_ret2
  exact ⟨rfl, rfl⟩
set_option maxHeartbeats 400000 in
theorem there_down (s : ByteArray) (w : World) (F M : Nat) (lim arm : Int) (h : FB w F M lim arm true) : Calls Tryz.prog 49 #[.pointer (some ⟨F, 0, none⟩), .string s] w fun e w' => e = .returned (.tuple #[.pointer none, .int .i64 13]) ∧ w = w' := by
  have H := Lib.hid (ready_any w F M lim arm true h)
  rw [show rdy true = 13 from rfl] at H
  clear h
  go_enter Tryz.func49, Tryz.ntmps49
  go_wp2_with (go_at_call 68; refine H.out.mono ?_; rintro e w' ⟨rfl, rfl⟩)
  go_ret2
  exact ⟨rfl, rfl⟩
set_option maxHeartbeats 400000 in
theorem there_none (s : ByteArray) (w : World) (F M : Nat) (lim arm : Int) (ps : List PF) (clock : Nat) (h : FilesAt w F M ps clock lim arm false) (hn : ∀ p ∈ ps, p.name ≠ s) :
    Calls Tryz.prog 49 #[.pointer (some ⟨F, 0, none⟩), .string s] w fun e w' => e = .returned (.tuple #[.pointer none, .int .i64 8]) ∧ w = w' := by
  have H := Lib.hid (ready_any w F M lim arm false h.fb)
  rw [show rdy false = 0 from rfl] at H
  have h0 := FB.c0 (show FB w F M lim arm false from h.fb)
  have hl := look_none h.map s hn
  clear h hn
  go_enter Tryz.func49, Tryz.ntmps49
  go_wp2_with (go_at_call 68; refine H.out.mono ?_; rintro e w' ⟨rfl, rfl⟩)
  go_ret2
  exact ⟨rfl, rfl⟩
set_option maxHeartbeats 400000 in
theorem there_some (w : World) (F M : Nat) (lim arm : Int) (l1 l2 : List PF) (p : PF) (clock : Nat) (h : FilesAt w F M (l1 ++ p :: l2) clock lim arm false) :
    Calls Tryz.prog 49 #[.pointer (some ⟨F, 0, none⟩), .string p.name] w fun e w' => e = .returned (.tuple #[.pointer (some ⟨p.blk, 0, none⟩), .int .i64 0]) ∧ w = w' := by
  have H := Lib.hid (ready_any w F M lim arm false h.fb)
  rw [show rdy false = 0 from rfl] at H
  have h0 := FB.c0 (show FB w F M lim arm false from h.fb)
  have hl := look_some h.map (names_ne h.names).1 true
  rw [if_pos rfl] at hl
  clear h
  go_enter Tryz.func49, Tryz.ntmps49
  go_wp2_with (go_at_call 68; refine H.out.mono ?_; rintro e w' ⟨rfl, rfl⟩)
  go_ret2
  exact ⟨rfl, rfl⟩

/-! ### Arm, Limit, Down -/
def armI (n : Int) : Int := if n ≤ 0 then 0 else n
set_option maxHeartbeats 400000 in
theorem arm_nil (n : Int) (w : World) : Calls Tryz.prog 9 #[.pointer none, .int .i64 n] w fun e w' => e = .returned (.tuple #[]) ∧ w = w' := by
  go_enter Tryz.func9, Tryz.ntmps9
  go_wp2
  go_end0
  exact ⟨rfl, rfl⟩
set_option maxHeartbeats 400000 in
theorem arm_any (n : Int) (w : World) (F M : Nat) (lim arm : Int) (dn : Bool) (h : FB w F M lim arm dn) : Calls Tryz.prog 9 #[.pointer (some ⟨F, 0, none⟩), .int .i64 n] w fun e w' => e = .returned (.tuple #[]) ∧ FB w' F M lim (armI n) dn ∧ Kept (fun k => k = F) w w' := by
  have H := Lib.hid h
  have h2 := h.c2
  have f2 := h.fz 2
  clear h
  by_cases hn : n ≤ 0
  · have Ha := Lib.hid (show armI n = 0 by unfold armI; rw [if_pos hn])
    by_cases hz : n = 0
    · subst hz
      go_enter Tryz.func9, Tryz.ntmps9
      go_wp2
      go_end0
      exact ⟨rfl, by rw [Ha.out]; exact H.out.s2 0, kF _ _ _ _⟩
    · have hlt : n < 0 := by omega
      clear hz hn
      go_enter Tryz.func9, Tryz.ntmps9
      go_wp2
      go_end0
      exact ⟨rfl, by rw [Ha.out]; exact H.out.s2 0, kF _ _ _ _⟩
  · have Ha := Lib.hid (show armI n = n by unfold armI; rw [if_neg hn])
    have hn' : 0 < n := by omega
    go_enter Tryz.func9, Tryz.ntmps9
    go_wp2
    go_end0
    exact ⟨rfl, by rw [Ha.out]; exact H.out.s2 n, kF _ _ _ _⟩
set_option maxHeartbeats 400000 in
theorem limit_nil (n : Int) (w : World) : Calls Tryz.prog 16 #[.pointer none, .int .i64 n] w fun e w' => e = .returned (.tuple #[]) ∧ w = w' := by
  go_enter Tryz.func16, Tryz.ntmps16
  go_wp2
  go_end0
  exact ⟨rfl, rfl⟩
set_option maxHeartbeats 400000 in
theorem limit_any (n : Int) (w : World) (F M : Nat) (lim arm : Int) (dn : Bool) (h : FB w F M lim arm dn) : Calls Tryz.prog 16 #[.pointer (some ⟨F, 0, none⟩), .int .i64 n] w fun e w' => e = .returned (.tuple #[]) ∧ FB w' F M (boundI n) arm dn ∧ Kept (fun k => k = F) w w' := by
  have H := Lib.hid h
  have h1 := h.c1
  have f1 := h.fz 1
  clear h
  go_enter Tryz.func16, Tryz.ntmps16
  go_wp2_with (go_at_call 24; refine (bound_any _ _).mono ?_; rintro e w' ⟨rfl, rfl⟩)
  go_end0
  exact ⟨rfl, H.out.s1 _, kF _ _ _ _⟩
set_option maxHeartbeats 400000 in
theorem down_nil (w : World) : Calls Tryz.prog 18 #[.pointer none] w fun e w' => e = .returned (.bool false) ∧ w = w' := by
  go_enter Tryz.func18, Tryz.ntmps18
  go_wp2
  go_ret
  exact ⟨rfl, rfl⟩
set_option maxHeartbeats 400000 in
theorem down_any (w : World) (F M : Nat) (lim arm : Int) (dn : Bool) (h : FB w F M lim arm dn) : Calls Tryz.prog 18 #[.pointer (some ⟨F, 0, none⟩)] w fun e w' => e = .returned (.bool dn) ∧ w = w' := by
  have h3 := h.c3
  clear h
  go_enter Tryz.func18, Tryz.ntmps18
  go_wp2
  go_ret
  exact ⟨rfl, rfl⟩

/-! ### Used -/
theorem used_nil (w : World) : Calls Tryz.prog 69 #[.pointer none] w fun e w' => e = .returned (.int .i64 0) ∧ w = w' := by
  go_enter Tryz.func69, Tryz.ntmps69
  go_wp2
  go_ret
  exact ⟨rfl, rfl⟩
def usedL (ps : List PF) : Nat := (ps.map fun p => p.b.length).sum
/-- What is still to come: by the stamps that have been met. -/
def leftL (ps : List PF) (seen : Array Nat) : List PF := ps.filter fun p => !seen.contains p.born
theorem leftOf_entries (ps : List PF) (seen : Array Nat) : (leftOf (entriesOf ps) seen).toList = (leftL ps seen).map PF.entry := by
  simp only [leftOf, entriesOf, leftL]
  rw [Array.toList_filter, List.filter_map]
  rfl
def itLeft (ps : List PF) : Option Obj → Nat
  | some (.mapIter _ _ seen _) => (leftL ps seen).length
  | _ => 0
/-- One file comes out: what is left is one less. -/
theorem left_step (ps : List PF) (hb : (ps.map PF.born).Nodup) (seen : Array Nat) (p : PF) (hp : p ∈ leftL ps seen) :
    (leftL ps (seen.push p.born)).length + 1 = (leftL ps seen).length ∧ usedL (leftL ps seen) = p.b.length + usedL (leftL ps (seen.push p.born)) := by
  have hpp := (List.mem_filter.1 hp).1
  have hps := (List.mem_filter.1 hp).2
  obtain ⟨l1, l2, rfl⟩ := List.append_of_mem hpp
  have hne : ∀ q ∈ l1 ++ l2, q.born ≠ p.born := by
    simp only [List.map_append, List.map_cons] at hb
    rw [List.nodup_append] at hb
    obtain ⟨_, h2, h3⟩ := hb
    rw [List.nodup_cons] at h2
    intro q hq e
    rcases List.mem_append.1 hq with hq | hq
    · exact h3 q.born (List.mem_map.2 ⟨q, hq, rfl⟩) p.born (by simp) e
    · exact h2.1 (by rw [← e]; exact List.mem_map.2 ⟨q, hq, rfl⟩)
  have e : ∀ l : List PF, (∀ q ∈ l, q.born ≠ p.born) → l.filter (fun q => !(seen.push p.born).contains q.born) = l.filter (fun q => !seen.contains q.born) := by
    intro l hl
    apply List.filter_congr
    intro q hq
    have := hl q hq
    rw [Array.contains_push]
    simp [this]
  have h1 := e l1 (fun q hq => hne q (by simp [hq]))
  have h2 := e l2 (fun q hq => hne q (by simp [hq]))
  have hin : (!(seen.push p.born).contains p.born) = false := by simp
  simp only [leftL, List.filter_append, List.filter_cons, hin, hps, if_true, h1, h2]
  constructor
  · simp; omega
  · simp [usedL]; omega
theorem leftL_nil (ps : List PF) : leftL ps #[] = ps := by
  unfold leftL
  rw [List.filter_eq_self]
  intro a _; simp
set_option maxRecDepth 100000 in
set_option maxHeartbeats 1000000 in
theorem used_any (w : World) (F M : Nat) (lim arm : Int) (dn : Bool) (ps : List PF) (clock : Nat) (h : FilesAt w F M ps clock lim arm dn) (hu : usedL ps ≤ 1000000000) :
    Calls Tryz.prog 69 #[.pointer (some ⟨F, 0, none⟩)] w fun e w' => e = .returned (.int .i64 (usedL ps)) ∧ Kept (fun _ => False) w w' := by
  have h0 := FB.c0 (show FB w F M lim arm dn from h.fb)
  have hrg : (Instr.range 56 (.map (some M))).run Tryz.prog w = .ok (.pointer (some ⟨w.heap.size, 0, none⟩)) (w.alloc (.mapIter (some M) clock #[] clock)) := by
    simp only [Instr.range, Sem.run_bind, run_underlying Tryz.underlying56, Go.MapKept.run_getObj_map h.map, Result.andThen]
    rfl
  have HF := Lib.hid h
  have hu9 : ((usedL ps : Nat) : Int) ≤ 1000000000 := by omega
  have Hu := Lib.hid hu
  clear h hu
  go_enter Tryz.func69, Tryz.ntmps69
  go_wp2_with fail
  obtain ⟨r, hr⟩ : ∃ r, r = w.heap.size := ⟨_, rfl⟩
  have hr0 : (w.alloc (.mapIter (some M) clock #[] clock)).heap[r]? = some (.mapIter (some M) clock #[] clock) := by rw [hr]; exact heap_alloc_new w _
  have Hr := Lib.hid hr
  rw [← hr]
  clear hr hrg h0
  go_loopw [3, 5] (fun n _ wr => ∃ (seen : Array Nat) (m : Nat), n = .int .i64 m ∧ Hid (m + usedL (leftL ps seen) = usedL ps) ∧ Hid (wr.heap[r]? = some (.mapIter (some M) clock seen clock)) ∧ Hid (Kept (fun _ => False) w wr)) (fun _ _ wr => itLeft ps wr.heap[r]?)
  case atStart => exact ⟨#[], 0, rfl, Lib.hid (by rw [leftL_nil]; omega), Lib.hid hr0, Lib.hid ((Kept.refl _ w).alloc _)⟩
  case round =>
    obtain ⟨seen, m, rfl, hm, hit, hk⟩ := hrel
    have hFw : FilesAt wr F M ps clock lim arm dn := HF.out.kept hk.out (by simp)
    have hold : ∀ x ∈ (entriesOf ps).toList, x.born < clock := by
      intro x hx
      simp only [entriesOf] at hx
      obtain ⟨p, hp, rfl⟩ := List.mem_map.1 hx
      exact HF.out.old p hp
    have hmle : m ≤ usedL ps := by have := hm.out; omega
    rcases run_next_at (P := Tryz.prog) wr 0 r M clock clock seen (entriesOf ps) clock hit.out hFw.map hold (Nat.le_refl _) with ⟨hz, hrun⟩ | ⟨e, he, w1, hw1, hrun⟩
    · have hl0 : leftL ps seen = [] := by
        have : (leftOf (entriesOf ps) seen).toList.length = 0 := by simpa using hz
        rw [leftOf_entries] at this
        exact List.map_eq_nil_iff.1 (List.eq_nil_of_length_eq_zero this)
      have hmm : m = usedL ps := by have := hm.out; rw [hl0] at this; simpa [usedL] using this
      have Hmm := Lib.hid hmm
      clear hold hFw hz hl0 hmm
      go_wp2
      go_ret
      exact ⟨ret_int (by rw [Hmm.out]), hk.out⟩
    · rw [leftOf_entries] at he
      obtain ⟨p, hp, rfl⟩ := List.mem_map.1 he
      have hpp : p ∈ ps := (List.mem_filter.1 hp).1
      obtain ⟨hs1, hs2⟩ := left_step ps HF.out.borns seen p hp
      have hw1h : w1.heap = wr.heap := by rcases hw1 with rfl | rfl <;> rfl
      have hk1 : Kept (fun _ => False) wr w1 := by rcases hw1 with rfl | rfl; exact Kept.refl _ _; exact (Kept.refl _ _).drew
      obtain ⟨W2, hW2⟩ : ∃ W2, W2 = w1.putObj r (.mapIter (some M) clock (seen.push p.born) clock) := ⟨_, rfl⟩
      have hrlt : r < w1.heap.size := by rw [hw1h]; exact (Array.getElem?_eq_some_iff.1 hit.out).1
      have hit2 : W2.heap[r]? = some (.mapIter (some M) clock (seen.push p.born) clock) := by rw [hW2]; exact World.putObj_heap_same hrlt
      have hk2 : Kept (fun k => k = r) w1 W2 := by rw [hW2]; exact putObj_kept _ _ _
      have hkw : Kept (fun _ => False) w W2 := (hk.out.trans' hk1).trans hk2 (fun i hi e => by have := Hr.out; omega)
      have hF2 : FilesAt W2 F M ps clock lim arm dn := HF.out.kept hkw (by simp)
      have hrun' : (Instr.next (.pointer (some ⟨r, 0, none⟩)) false 0).run Tryz.prog wr = .ok (.tuple #[.bool true, p.entry.key, p.entry.val]) W2 := by rw [hW2]; exact hrun
      have hent : (Instr.entry (.pointer (some ⟨r, 0, none⟩))).run Tryz.prog W2 = .ok (.tuple #[p.entry.key, p.entry.val]) W2 :=
        run_entry_at (P := Tryz.prog) W2 r M clock seen (entriesOf ps) clock p.entry hit2 hF2.map (by simp only [entriesOf]; exact List.mem_map.2 ⟨p, hpp, rfl⟩) (by simp only [entriesOf, List.map_map]; exact HF.out.borns)
      obtain ⟨A, c, hv, hlen, _, _, _⟩ := Bs.of_own (hF2.at_ p hpp).own
      have hcell : W2.cell? ⟨p.blk, 0, none⟩ = some (.slice A p.b.length c) := by
        have := (hF2.at_ p hpp).cell
        rw [hv] at this
        simp [World.cell?, this]
      have hb1 : m + p.b.length ≤ usedL ps := by have := hm.out; omega
      have hb9 : (m : Int) + (p.b.length : Int) ≤ 1000000000 := by have := Hu.out; omega
      have HS1 := Lib.hid hs1
      have HM2 := Lib.hid (show m + p.b.length + usedL (leftL ps (seen.push p.born)) = usedL ps by have := hm.out; omega)
      have HI2 := Lib.hid hit2
      have HK2 := Lib.hid hkw
      simp only [PF.entry] at hrun' hent
      clear hold hFw hrun hw1 hw1h hk1 hW2 hrlt hit2 hk2 hkw hF2 hv hlen hs1 hs2 he hp hb1
      go_wp2
      go_roundw
      case rel => exact ⟨seen.push p.born, m + p.b.length, by simp, HM2, HI2, HK2⟩
      case measure =>
        rw [HI2.out, hit.out]
        simp only [itLeft]
        have := HS1.out
        omega
end Go.Proofs.YtcifhfdjigfeiaaGreatDoor
end

/-! Package files: New, Clone of bytes, Append, Sync, Truncate, Rename, Remove, Read. -/
section
set_option linter.unusedVariables false
set_option linter.unusedSimpArgs false
namespace Go.Proofs.YtcifhfdjigfeiaaGreatDoor
open Go.RowKit

theorem infoU8 : (Tryz.prog.info? 5).map (fun i => (i.zero, i.size, i.bytes)) = some (some (.int .u8 0), 1, 1) := by kernel_rfl
theorem build0 (w : World) : (Instr.buildSlice 51 0 #[]).run Tryz.prog w = .ok (.slice (some ⟨w.heap.size, 0, none⟩) 0 0) (w.alloc (.cells #[] 5)) := by kernel_rfl

def ClonePost (w : World) (xs : List UInt8) (e : Ending) (w' : World) : Prop :=
  ∃ v, e = .returned v ∧ w'.ownsRow w.heap.size 5 1 v xs.length (xs.map bv) ∧ Kept (fun _ => False) w w'
set_option maxRecDepth 100000 in
set_option maxHeartbeats 1000000 in
theorem clone_nil (w : World) : Calls Tryz.prog 30 #[.slice none 0 0] w (ClonePost w []) := by
  have hne : (binOp .eql 51 (.slice none 0 0) (.slice none 0 0)).run Tryz.prog w = .ok (.bool true) w := by kernel_rfl
  go_enter Tryz.func30, Tryz.ntmps30
  go_wp2
  go_ret
  exact ⟨_, rfl, World.ownsRow_nil _ _ _ _, Kept.refl _ _⟩
set_option maxHeartbeats 1000000 in
theorem clone_some (w : World) (a : Addr) (n c : Nat) (xs : List UInt8) (hn : Hid (n = xs.length)) (hl : n ≤ 1000000000) (h : Bs w (some a) xs) : Calls Tryz.prog 30 #[.slice (some a) n c] w (ClonePost w xs) := by
  obtain ⟨i0, hi, hz0, hz1, hz2⟩ := info_parts infoU8
  have H := Lib.hid h
  have hb := build0 w
  have hown : (w.alloc (.cells #[] 5)).ownsRow w.heap.size 5 1 (.slice (some ⟨w.heap.size, 0, none⟩) 0 0) 0 [] :=
    ⟨by simp, .inr ⟨w.heap.size, 0, #[], rfl, Nat.le_refl _, heap_alloc_new w _, Nat.le_refl _, by simp, by simp, by simp⟩⟩
  have HO := Lib.hid hown
  have hkp : Kept (fun _ => False) w (w.alloc (.cells #[] 5)) := (Kept.refl _ w).alloc _
  have HK := Lib.hid hkp
  have hne : (binOp .eql 51 (.slice (some a) n c) (.slice none 0 0)).run Tryz.prog w = .ok (.bool false) w := by
    kernel_rfl
  clear h hown hkp
  go_enter Tryz.func30, Tryz.ntmps30
  go_wp2_with (at_builtin; refine wpList_append_own _ rfl _ _ 51 rfl w.heap.size 5 i0 (.int .u8 0) 1 1 Tryz.underlying51 hi hz0 hz1 hz2 rfl (by decide) _ 0 [] rfl HO.out a n c (xs.map bv) rfl ?c1 ?c2 ?c3 ?c4 ?c5 ?c6 ?_; rotate_right; intro v' w1 hown hgrow hnil)
  case c1 => simp [hn.out]
  case c2 => exact (H.out.kept HK.out (by simp)).2 a rfl
  case c3 => exact bv_one xs
  case c4 => unfold maxLen; omega
  case c5 => omega
  case c6 => simp
  simp only [Nat.zero_add, List.nil_append] at hown
  rw [hn.out] at hown
  go_ret
  exact ⟨v', rfl, hown, HK.out.grown hgrow (fun k e hk => by
    have : w.heap.size = k := by simpa [Value.ownBlock, Act.eval] using e
    omega)⟩
theorem clone_any (w : World) (A : Option Addr) (n c : Nat) (xs : List UInt8) (hn : n = xs.length) (hl : n ≤ 1000000000) (h : Bs w A xs) (hA : A = none → c = 0) : Calls Tryz.prog 30 #[.slice A n c] w (ClonePost w xs) := by
  cases A with
  | none =>
    have h1 := h.1 rfl
    have h2 := hA rfl
    subst h1; subst h2
    simp only [List.length_nil] at hn
    subst hn
    exact clone_nil w
  | some a => exact clone_some w a n c xs hn hl h

/-! ### New -/
def NewPost (w : World) (n : Int) (e : Ending) (w' : World) : Prop :=
  ∃ F M, e = .returned (.pointer (some ⟨F, 0, none⟩)) ∧ FilesAt w' F M [] 0 (boundI n) 0 false ∧ Kept (fun _ => False) w w' ∧ w.heap.size ≤ F ∧ w.heap.size ≤ M
set_option maxHeartbeats 1000000 in
theorem new_any (w : World) (n : Int) : Calls Tryz.prog 4 #[.int .i64 n] w (NewPost w n) := by
  have hmm := @run_makeMap Tryz.prog
  have Hr := Lib.hid (boundI_r n)
  obtain ⟨b, hb⟩ : ∃ b, b = boundI n := ⟨_, rfl⟩
  have HB := Lib.hid (bound_any n (w.alloc (.map #[] 0)))
  rw [← hb] at HB Hr
  have hbu : (Instr.build 59 #[(0, .map (some w.heap.size)), (1, .int .i64 b)]).run Tryz.prog (w.alloc (.map #[] 0)) = .ok (.agg #[.map (some w.heap.size), .int .i64 b, .int .i64 0, .bool false]) (w.alloc (.map #[] 0)) := by kernel_rfl
  have Hb := Lib.hid hb
  clear hb
  go_enter Tryz.func4, Tryz.ntmps4
  go_wp2_with (go_at_call 24; refine HB.out.mono ?_; rintro e w' ⟨rfl, rfl⟩)
  go_ret
  refine ⟨w.heap.size + 1, w.heap.size, rfl, ⟨?_, ?_, by simp, by simp, by simp, by simp, ?_, ?_, by omega⟩, ((Kept.refl _ w).alloc _).alloc _, by omega, Nat.le_refl _⟩
  · rw [← Hb.out]
    have := heap_alloc_new (w.alloc (.map #[] 0)) (.cells #[.map (some w.heap.size), .int .i64 b, .int .i64 0, .bool false] 59)
    rw [World.size_alloc] at this
    exact this
  · rw [Below.heap_alloc _ _ _ (by rw [World.size_alloc]; omega)]
    exact heap_alloc_new w _
  · simp [foot]
  · rw [← Hb.out]; exact Hr.out

/-! ### Read -/
def ReadPost (w : World) (F M : Nat) (xs : List UInt8) (er : Int) (e : Ending) (w' : World) : Prop :=
  ∃ v, e = .returned (.tuple #[v, .int .i64 er]) ∧ w'.ownsRow w.heap.size 5 1 v xs.length (xs.map bv) ∧ Kept (fun _ => False) w w'
theorem read_nil (s : ByteArray) (w : World) : Calls Tryz.prog 27 #[.pointer none, .string s] w (ReadPost w 0 0 [] 2) := by
  go_enter Tryz.func27, Tryz.ntmps27
  go_wp2_with (go_at_call 49; refine (there_nil _ _).mono ?_; rintro e w' ⟨rfl, rfl⟩)
  go_ret2
  exact ⟨_, rfl, World.ownsRow_nil _ _ _ _, Kept.refl _ _⟩
theorem read_down (s : ByteArray) (w : World) (F M : Nat) (lim arm : Int) (h : FB w F M lim arm true) : Calls Tryz.prog 27 #[.pointer (some ⟨F, 0, none⟩), .string s] w (ReadPost w F M [] 13) := by
  have H := Lib.hid (there_down s w F M lim arm h)
  clear h
  go_enter Tryz.func27, Tryz.ntmps27
  go_wp2_with (go_at_call 49; refine H.out.mono ?_; rintro e w' ⟨rfl, rfl⟩)
  go_ret2
  exact ⟨_, rfl, World.ownsRow_nil _ _ _ _, Kept.refl _ _⟩
theorem read_none (s : ByteArray) (w : World) (F M : Nat) (lim arm : Int) (ps : List PF) (clock : Nat) (h : FilesAt w F M ps clock lim arm false) (hn : ∀ p ∈ ps, p.name ≠ s) :
    Calls Tryz.prog 27 #[.pointer (some ⟨F, 0, none⟩), .string s] w (ReadPost w F M [] 8) := by
  have H := Lib.hid (there_none s w F M lim arm ps clock h hn)
  clear h hn
  go_enter Tryz.func27, Tryz.ntmps27
  go_wp2_with (go_at_call 49; refine H.out.mono ?_; rintro e w' ⟨rfl, rfl⟩)
  go_ret2
  exact ⟨_, rfl, World.ownsRow_nil _ _ _ _, Kept.refl _ _⟩
theorem PF.At.c0 {w : World} {p : PF} (h : p.At w) : w.cell? ⟨p.blk, 0, none⟩ = some p.val := by simp [World.cell?, h.cell]
theorem PF.At.c1 {w : World} {p : PF} (h : p.At w) : w.cell? ⟨p.blk, 1, none⟩ = some (.int .i64 p.safe) := by simp [World.cell?, h.cell]
theorem PF.At.fz {w : World} {p : PF} (h : p.At w) (i : Nat) : w.frozen? ⟨p.blk, i, none⟩ = false := by simp [World.frozen?, h.cell]
theorem read_some (w : World) (F M : Nat) (lim arm : Int) (l1 l2 : List PF) (p : PF) (clock : Nat) (h : FilesAt w F M (l1 ++ p :: l2) clock lim arm false) :
    Calls Tryz.prog 27 #[.pointer (some ⟨F, 0, none⟩), .string p.name] w (ReadPost w F M p.b 0) := by
  have H := Lib.hid (there_some w F M lim arm l1 l2 p clock h)
  have hp := h.at_ p (by simp)
  obtain ⟨A, c, hv, hlen, hbs, hA, _⟩ := Bs.of_own hp.own
  have hc := hp.c0
  rw [hv] at hc
  have HC := Lib.hid (clone_any w A p.b.length c p.b rfl (by have := hp.len; omega) hbs hA)
  clear h hp hv hlen hbs hA
  go_enter Tryz.func27, Tryz.ntmps27
  go_wp2_with (first | (go_at_call 49; refine H.out.mono ?_; rintro e w' ⟨rfl, rfl⟩) | (go_at_call 30; refine HC.out.mono ?_; rintro e w' ⟨v, rfl, hown, hk⟩))
  go_ret2
  exact ⟨v, rfl, hown, hk⟩
end Go.Proofs.YtcifhfdjigfeiaaGreatDoor
end
