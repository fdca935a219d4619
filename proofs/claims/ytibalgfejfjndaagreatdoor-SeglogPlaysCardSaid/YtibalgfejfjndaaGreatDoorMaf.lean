import Derived.Test.YtibalgfejfjndaaGreatDoorMac
import Derived.Test.YtibalgfejfjndaaGreatDoorMad
import Derived.Test.YtibalgfejfjndaaGreatDoorMae
import Derived.Test.YtibalgfejfjndaaGreatDoorMab
import Derived.Test.YtibalgfejfjndaaGreatDoorMaa
import Derived.Test.YtibalgfejfjndaaGreatDoorIter
import Derived.Sort.KeysCollected
import Derived.StillTailTactics
import Derived.OrdersIn
import Derived.OwnWalkIn
/-! One file "a" alone: appended to, cut, read; courantlaw16.awake. -/
section
set_option linter.unusedVariables false
set_option linter.unusedSimpArgs false
namespace Go.Proofs.YtibalgfejfjndaaGreatDoor
open Go.RowKit

def nmA : ByteArray := ⟨#[97]⟩
theorem nmA_full : fullB nmA = true := by kernel_rfl
/-- No file, or the file "a" alone, so long. -/
def One (ps : List PF) (xs : List UInt8) (made : Bool) : Prop := (ps = [] ∧ xs = [] ∧ made = false) ∨ ∃ p, ps = [p] ∧ p.name = nmA ∧ p.b = xs ∧ made = true
theorem One.used {ps : List PF} {xs : List UInt8} {m : Bool} (h : One ps xs m) : usedL ps = xs.length := by
  rcases h with ⟨rfl, rfl, _⟩ | ⟨p, rfl, _, rfl, _⟩ <;> simp [usedL]
structure Room (w W : World) (F M : Nat) (ps : List PF) (clock : Nat) (lim : Int) : Prop where
  at_ : FilesAt W F M ps clock lim 0 false
  new : ∀ k ∈ foot F M ps, w.heap.size ≤ k
  kept : Kept (fun _ => False) w W
variable {w W W' : World} {F M : Nat} {ps ps' : List PF} {clock clock' : Nat} {lim : Int}
theorem Room.step (h : Room w W F M ps clock lim) (k : Went W F M ps ps' clock' lim 0 false W') : Room w W' F M ps' clock' lim :=
  ⟨k.at_, fun i hi => (k.feet i hi).elim (h.new i) fun hi => Nat.le_trans h.kept.size hi, h.kept.trans k.kept fun i hi hm => by have := h.new i hm; omega⟩
theorem Room.stay (h : Room w W F M ps clock lim) (k : Kept (fun _ => False) W W') : Room w W' F M ps clock lim := ⟨h.at_.kept k (by simp), h.new, h.kept.trans' k⟩
theorem append_one (W : World) (ps : List PF) (clock : Nat) (lim : Int) (F M n c : Nat) (ad : Addr) (ys xs : List UInt8) (m : Bool) (h : FilesAt W F M ps clock lim 0 false) (ho : One ps ys m) (hx : Bs W (some ad) xs) (hn : n = xs.length)
    (hM : ad.block ≠ M) (hfit : n = 0 ∨ (n : Int) + (ys.length : Int) ≤ lim) (hu : ys.length ≤ 4194304) :
    Calls Tryz.prog 46 #[.pointer (some ⟨F, 0, none⟩), .string nmA, .slice (some ad) n c] W fun e w' => ∃ ps' clock', e = .returned (.int .i64 0) ∧ Went W F M ps ps' clock' lim 0 false w' ∧ One ps' (ys ++ xs) true := by
  have hu' := ho.used
  rcases ho with ⟨rfl, rfl, _⟩ | ⟨p, rfl, hp, rfl, _⟩
  · refine (append_new_some nmA ad n c W F M lim 0 [] clock xs (by simp) (by decide) nmA_full h (by rw [hu']; exact hu) hx hn (by unfold Fits; rw [hu']; exact hfit) (.inr hM)).mono ?_
    rintro e w' ⟨B, v, rfl, hw⟩
    exact ⟨_, _, rfl, hw, .inr ⟨_, rfl, rfl, by simp, rfl⟩⟩
  · have := append_old_some ad n c W F M lim 0 [] [] p clock xs (by rw [hp]; decide) (by rw [hp]; exact nmA_full) h (by simpa using hu'.symm ▸ hu) hx hn (by unfold Fits; simpa [hu'] using hfit)
    rw [hp] at this
    refine this.mono ?_
    rintro e w' ⟨v, rfl, hw⟩
    exact ⟨_, _, rfl, hw, .inr ⟨_, rfl, rfl, rfl, rfl⟩⟩
theorem trunc_one (W : World) (ps : List PF) (clock : Nat) (lim : Int) (F M n : Nat) (ys : List UInt8) (h : FilesAt W F M ps clock lim 0 false) (ho : One ps ys true) (hn : n ≤ ys.length) :
    Calls Tryz.prog 16 #[.pointer (some ⟨F, 0, none⟩), .string nmA, .int .i64 n] W fun e w' => ∃ ps' clock', e = .returned (.int .i64 0) ∧ Went W F M ps ps' clock' lim 0 false w' ∧ One ps' (ys.take n) true := by
  rcases ho with ⟨_, _, h0⟩ | ⟨p, rfl, hp, rfl, _⟩
  · cases h0
  · rcases Nat.lt_or_ge n p.safe with h1 | h1
    · have := trunc_lt W F M lim 0 [] [] p clock n hn h1 (by decide) h
      rw [hp] at this
      refine this.mono ?_
      rintro e w' ⟨v, rfl, hw⟩
      exact ⟨_, _, rfl, hw, .inr ⟨_, rfl, rfl, rfl, rfl⟩⟩
    · have := trunc_ge W F M lim 0 [] [] p clock n hn (by omega) (by decide) h
      rw [hp] at this
      refine this.mono ?_
      rintro e w' ⟨v, rfl, hw⟩
      exact ⟨_, _, rfl, hw, .inr ⟨_, rfl, rfl, rfl, rfl⟩⟩
theorem read_one (W : World) (ps : List PF) (clock : Nat) (lim : Int) (F M : Nat) (ys : List UInt8) (h : FilesAt W F M ps clock lim 0 false) (ho : One ps ys true) :
    Calls Tryz.prog 13 #[.pointer (some ⟨F, 0, none⟩), .string nmA] W fun e w' => ∃ A c, e = .returned (.tuple #[.slice A ys.length c, .int .i64 0]) ∧ Kept (fun _ => False) W w' := by
  rcases ho with ⟨_, _, h0⟩ | ⟨p, rfl, hp, rfl, _⟩
  · cases h0
  · have := read_some W F M lim 0 [] [] p clock h
    rw [hp] at this
    refine this.mono ?_
    rintro e w' ⟨v, rfl, hown, hk⟩
    obtain ⟨A, c, rfl, _⟩ := Bs.of_own hown
    exact ⟨A, c, rfl, hk⟩
theorem used_one (W : World) (ps : List PF) (clock : Nat) (lim : Int) (F M : Nat) (ys : List UInt8) (m : Bool) (h : FilesAt W F M ps clock lim 0 false) (ho : One ps ys m) (hu : ys.length ≤ 1000000000) :
    Calls Tryz.prog 69 #[.pointer (some ⟨F, 0, none⟩)] W fun e w' => e = .returned (.int .i64 (ys.length : Nat)) ∧ Kept (fun _ => False) W w' := by
  have hu' := ho.used
  have := used_any W F M lim 0 false ps clock h (by rw [hu']; exact hu)
  rwa [hu'] at this

/-! ### awake -/
theorem new_room (w : World) (n : Int) : Calls Tryz.prog 4 #[.int .i64 n] w fun e w' => ∃ F M, e = .returned (.pointer (some ⟨F, 0, none⟩)) ∧ Room w w' F M [] 0 (boundI n) :=
  (new_any w n).mono fun e w' ⟨F, M, he, hf, hk, h1, h2⟩ => ⟨F, M, he, hf, fun k hk' => by simp only [foot, List.flatMap_nil, List.mem_cons, List.not_mem_nil, or_false] at hk'; rcases hk' with rfl | rfl <;> assumption, hk⟩
def three : List UInt8 := [1, 2, 3]
theorem Room.ne {w W : World} {F M : Nat} {ps : List PF} {clock : Nat} {lim : Int} (h : Room w W F M ps clock lim) : W.heap.size ≠ M := by
  have := h.at_.lt M (by simp [foot]); omega
theorem bs_new (W : World) (xs : List UInt8) (cs : Array Value) (h : cs = (xs.map bv).toArray) (t : TypeId) : Bs (W.alloc (.cells cs t)) (some ⟨W.heap.size, 0, none⟩) xs := by
  refine ⟨fun e => (by cases e), fun ad e j u hu => ?_⟩
  cases e
  have hh := heap_alloc_new W (.cells cs t)
  subst h
  have e1 : (⟨W.heap.size, 0, none⟩ : Addr).add j = ⟨W.heap.size, j, none⟩ := by unfold Addr.add; split <;> simp_all
  rw [e1]
  simp only [World.cell?, hh]
  simpa using hu
def AppPost (w : World) (F M : Nat) (lim : Int) (zs : List UInt8) (e : Ending) (w' : World) : Prop :=
  ∃ ps' clock', e = .returned (.int .i64 0) ∧ Room w w' F M ps' clock' lim ∧ One ps' zs true
theorem append_room {w W : World} {F M : Nat} {ps : List PF} {clock : Nat} {lim : Int} (n c : Nat) (ad : Addr) (ys xs : List UInt8) (m : Bool) (h : Room w W F M ps clock lim) (ho : One ps ys m) (hx : Bs W (some ad) xs) (hn : n = xs.length)
    (hM : ad.block ≠ M) (hfit : n = 0 ∨ (n : Int) + (ys.length : Int) ≤ lim) (hu : ys.length ≤ 4194304) :
    Calls Tryz.prog 46 #[.pointer (some ⟨F, 0, none⟩), .string ⟨#[97]⟩, .slice (some ad) n c] W (AppPost w F M lim (ys ++ xs)) :=
  (append_one W ps clock lim F M n c ad ys xs m h.at_ ho hx hn hM hfit hu).mono fun e w' ⟨ps', clock', he, hw, ho'⟩ => ⟨ps', clock', he, h.step hw, ho'⟩
theorem three_new (W : World) : Bs (W.alloc (.cells #[.int .u8 1, .int .u8 2, .int .u8 3] 5)) (some ⟨W.heap.size, 0, none⟩) three := bs_new W three _ (by rfl) 5
end Go.Proofs.YtibalgfejfjndaaGreatDoor
end

/-! Nil files: Crash, Start, Fork, List; couranthelp.Seq of no strings. -/
section
set_option linter.unusedVariables false
set_option linter.unusedSimpArgs false
namespace Go.Proofs.YtibalgfejfjndaaGreatDoor
open Go.RowKit

theorem results_cell2 {P : Program} {fn : Func} {p q : Tmp} {ty ty' : TypeId} (h : fn.results = #[.cell p ty, .cell q ty']) (hag : ∀ w, (isAgg ty).run P w = .ok false w) (hag' : ∀ w, (isAgg ty').run P w = .ok false w) {tmps : Array Value} {a b : Addr}
    (hp : tmps.getD p undef = .pointer (some a)) (hq : tmps.getD q undef = .pointer (some b)) {w : World} {v u : Value} (hc : w.cell? a = some v) (hd : w.cell? b = some u) :
    (results fn tmps).run P w = .ok (.tuple #[v, u]) w := by
  have hp' : tmps[p]?.getD undef = .pointer (some a) := by simpa using hp
  have hq' : tmps[q]?.getD undef = .pointer (some b) := by simpa using hq
  simp [results, h, hp', hq', asAddr, loadVar, hag, hag', go_sem, hc, hd]
theorem crash_nil (a : Option Addr) (n c : Nat) (w : World) : Calls Tryz.prog 20 #[.pointer none, .slice a n c] w fun e w' => e = .returned (.tuple #[]) ∧ Kept (fun _ => False) w w' := by
  refine calls_of_marks Tryz.func20 rfl ?_
  simp only [Tryz.ntmps20, List.size_toArray, List.length_cons, List.length_nil, Nat.reduceAdd, Nat.reduceSub, Array.replicate_succ, Array.replicate_zero, List.push_toArray, List.append_toArray, List.nil_append, List.cons_append]
  go_wp2
  exact leave_none (v := .tuple #[]) (by kernel_rfl) ⟨rfl, ((Kept.refl _ _).alloc _).alloc _⟩
theorem start_nil (w : World) : Calls Tryz.prog 47 #[.pointer none] w fun e w' => e = .returned (.tuple #[]) ∧ w = w' := by
  go_enter Tryz.func47, Tryz.ntmps47
  go_wp2
  refine bodyPost_ret (results_none rfl _ _ _) rfl ?_
  exact ⟨rfl, rfl⟩
theorem sorted_nil (w : World) : Calls Tryz.prog 61 #[.pointer none] w fun e w' => e = .returned (.slice none 0 0) ∧ w = w' := by
  go_enter Tryz.func61, Tryz.ntmps61
  go_wp2
  go_ret
  exact ⟨rfl, rfl⟩
theorem valuesS_any (v : Value) (w : World) (hv : v = .slice none 0 0) : Calls Tryz.prog 60 #[v] w fun e w' => e = .returned (.func (.func 78) #[] #[.pointer (some ⟨w.heap.size, 0, none⟩)]) ∧ w' = w.alloc (.cells #[v] 114) := by
  subst hv
  go_enter Tryz.func60, Tryz.ntmps60
  go_wp2
  go_ret
  exact ⟨rfl, rfl⟩
theorem list_nil (w : World) : Calls Tryz.prog 35 #[.pointer none] w fun e w' => e = .returned (.func (.func 78) #[] #[.pointer (some ⟨w.heap.size, 0, none⟩)]) ∧ w' = w.alloc (.cells #[.slice none 0 0] 114) := by
  have HV := Lib.hid (valuesS_any (.slice none 0 0) w rfl)
  go_enter Tryz.func35, Tryz.ntmps35
  go_wp2_with (first | (go_at_call 61; refine (sorted_nil _).mono ?_; rintro e w' ⟨rfl, rfl⟩) | (go_at_call 60; refine HV.out.mono ?_; rintro e w' ⟨rfl, rfl⟩))
  go_ret
  exact ⟨rfl, rfl⟩
/-- The iterator over no strings. -/
theorem values_none_iter (B : Nat) (w : World) (hb : Boxed w B 114 (.slice none 0 0)) :
    Iter Tryz.prog 78 #[.pointer (some ⟨B, 0, none⟩)] (fun x : Empty => #[]) (fun _ => False) (fun _ => False) [] w := by
  intro l J Jx W hW hJ hJx hY h0
  refine callsIn_of_wp Tryz.func78 rfl trivial ?_ rfl
  have hb' : Boxed W B 114 (.slice none 0 0) := hW.heap hb (by simp)
  have hcp := hb'.cell
  clear hb hb' hY
  simp only [Tryz.ntmps78, List.size_toArray, List.length_cons, List.length_nil, Nat.reduceAdd, Nat.reduceSub, Array.replicate_succ, Array.replicate_zero, List.push_toArray, List.append_toArray, List.nil_append, List.cons_append]
  gi_wp2
  gi_loopw [7] (fun i wr => i = .int .i64 0 ∧ wr = W) (fun _ _ => 0)
  case atStart => exact ⟨rfl, rfl⟩
  case round =>
    obtain ⟨rfl, rfl⟩ := hrel
    gi_wp2
    refine bodyPost_end (results_none rfl _ _ _) rfl ?_
    exact ⟨⟨_, rfl⟩, .inl h0⟩
end Go.Proofs.YtibalgfejfjndaaGreatDoor
end

/-! The files' names, sorted: package files' sorted, over the kit's laid contracts on slices.Sorted(maps.Keys(m)). -/
section
set_option linter.unusedVariables false
set_option linter.unusedSimpArgs false
namespace Go.Proofs.YtibalgfejfjndaaGreatDoor
open Go.RowKit Go.Maps Go.Sort

/-- The names, as the sort leaves them. -/
def namesL (ps : List PF) : List (List UInt8) := ps.map fun p => p.name.data.toList
def sortN (ps : List PF) : List (List UInt8) := (namesL ps).mergeSort leB
theorem sortN_perm (ps : List PF) : (sortN ps).Perm (namesL ps) := List.mergeSort_perm _ _
def anyR (v : Value) : Option (DataW Unit × List MemPlace) := some (.nil, [])
theorem entry_key (p : PF) (h : p.name.size ≤ maxLen) : Go.WideElems.rd Tryz.prog 9 anyR p.entry = some (Lit.string p.name.data.toList, DataW.nil) := by
  simp [Go.WideElems.rd, keyOf, mapKey, Tryz.underlying9, PF.entry, anyR, h]
theorem files_map {w : World} {F M : Nat} {ps : List PF} {clock : Nat} {lim arm : Int} {dn : Bool} (h : FilesAt w F M ps clock lim arm dn) (hn : ps.length ≤ 1000000) (hm : ∀ p ∈ ps, p.name.size ≤ 1000000) :
    ∃ D0 : DataW Unit, w.ownsMap Tryz.prog 9 anyR M 1000000 D0 ∧ Maps.size D0 ≤ 1000000 ∧ (strKeys D0).Perm (namesL ps) := by
  have hrd : ∀ p ∈ ps, Go.WideElems.rd Tryz.prog 9 anyR p.entry = some (Lit.string p.name.data.toList, DataW.nil) := fun p hp => entry_key p (by have := hm p hp; unfold maxLen; omega)
  have hE : (entriesOf ps).toList.map (Go.WideElems.rg Tryz.prog 9 anyR) = ps.map fun p => (Lit.string p.name.data.toList, DataW.nil) := by
    simp only [entriesOf, List.map_map]
    exact List.map_congr_left fun p hp => by simp [Go.WideElems.rg, hrd p hp]
  refine ⟨_, ⟨entriesOf ps, clock, h.map, ⟨by simp [entriesOf]; unfold maxLen; omega, ⟨?_, ?_, ?_⟩, ?_⟩, by simp [entriesOf]; exact hn, rfl⟩, ?_, ?_⟩
  · intro x hx
    simp only [entriesOf] at hx
    obtain ⟨p, hp, rfl⟩ := List.mem_map.1 hx
    exact h.old p hp
  · simp only [entriesOf, List.map_map]
    exact h.borns
  · simp only [entriesOf, List.map_map]
    have e : ((fun x : MapEntry => x.key) ∘ PF.entry) = (fun s : ByteArray => Value.string s) ∘ PF.name := rfl
    rw [show (fun x : MapEntry => x.key) ∘ PF.entry = (fun s : ByteArray => Value.string s) ∘ PF.name from rfl, ← List.map_map]
    exact List.Pairwise.map _ (fun a b hab e => hab (by injection e)) h.names
  · intro x hx
    simp only [entriesOf] at hx
    obtain ⟨p, hp, rfl⟩ := List.mem_map.1 hx
    exact ⟨_, hrd p hp⟩
  · rw [hE]
    have := (Go.WideShapes.sorted_perm (ps.map fun p => (Lit.string p.name.data.toList, (DataW.nil : DataW Unit)))).length_eq
    simp only [Maps.size, this, List.length_map]
    exact hn
  · rw [hE]
    simp only [strKeys]
    refine ((Go.WideShapes.sorted_perm _).map _).trans ?_
    simp only [List.map_map]
    exact List.Perm.of_eq rfl
def SortedPost (w : World) (ps : List PF) (e : Ending) (w' : World) : Prop :=
  ∃ v, e = .returned v ∧ w'.ownsRow w.heap.size 9 1 v (sortN ps).length ((sortN ps).map encStr) ∧ Kept (fun _ => False) w w'
set_option maxRecDepth 100000 in
set_option maxHeartbeats 1000000 in
theorem sorted_any (w : World) (F M : Nat) (ps : List PF) (clock : Nat) (lim arm : Int) (dn : Bool) (h : FilesAt w F M ps clock lim arm dn) (hn : ps.length ≤ 1000000) (hm : ∀ p ∈ ps, p.name.size ≤ 1000000) :
    Calls Tryz.prog 61 #[.pointer (some ⟨F, 0, none⟩)] w (SortedPost w ps) := by
  obtain ⟨D0, hown, hsz, hperm⟩ := files_map h hn hm
  have h0 := FB.c0 h.fb
  have HS := Lib.hid ((callsIn_wide (n := 5)).1 (Tryz.slices_Sorted_keys_79_80 M 1000000 D0 anyR w hown (by unfold maxLen; omega) (by omega)))
  have HK := Lib.hid ((callsIn_wide (n := 5)).1 (Tryz.maps_Keys_80 (some M) w))
  have HP := Lib.hid hperm
  clear h hown hsz hperm hn hm
  go_enter Tryz.func61, Tryz.ntmps61
  go_wp2_with (first
    | (go_at_call 80; refine HK.out.mono ?_; rintro e w' ⟨rfl, rfl⟩)
    | (go_at_call 79; refine HS.out.mono ?_; rintro e w' ⟨v, ss, rfl, hS, hrow, hnil, hb⟩; have HS' := Lib.hid hS; have HR := Lib.hid hrow; have HB := Lib.hid hb; clear hS hrow hnil hb))
  go_ret
  have e1 : ss.mergeSort leB = sortN ps := mergeSort_of_perm (HS'.out.trans HP.out)
  have hk : Kept (fun _ => False) w w' := ((Kept.refl _ w).alloc (.cells #[.map (some M)] 42)).trans' (Kept.of_below HB.out _ (fun k h1 h2 => by omega))
  refine ⟨v, rfl, ?_, hk⟩
  have hlen : ss.length = (sortN ps).length := by rw [← e1]; simp
  have hr := HR.out
  rw [hlen, show (ss.mergeSort fun x y => decide (x ≤ y)) = sortN ps from e1] at hr
  exact Go.Proofs.ownsRow_base_a hr (by simp)
end Go.Proofs.YtibalgfejfjndaaGreatDoor
end

/-! slices.Values over strings, in order; package files' List. -/
section
set_option linter.unusedVariables false
set_option linter.unusedSimpArgs false
namespace Go.Proofs.YtibalgfejfjndaaGreatDoor
open Go.RowKit Go.Sort

def iNat : Value → Nat
  | .int _ x => x.toNat
  | _ => 0
/-- What a slice of strings reads. -/
def Ss (w : World) (A : Option Addr) (ns : List (List UInt8)) : Prop := ∀ (j : Nat) x, ns[j]? = some x → ∃ ad, A = some ad ∧ w.cell? (ad.add j) = some (.string ⟨x.toArray⟩)
def rdOf (A : Option Addr) (k : Nat) : Prop := ∃ ad, A = some ad ∧ ad.block = k
theorem add_block (ad : Addr) (j : Nat) : (ad.add j).block = ad.block := by unfold Addr.add; split <;> rfl
theorem Ss.same {w w' : World} {A : Option Addr} {ns : List (List UInt8)} (h : Ss w A ns) (hk : ∀ k, rdOf A k → w'.heap[k]? = w.heap[k]?) : Ss w' A ns := by
  intro j x hx
  obtain ⟨ad, rfl, hc⟩ := h j x hx
  exact ⟨ad, rfl, (World.cell?_of_block (by rw [add_block]; exact hk _ ⟨ad, rfl, rfl⟩)).trans hc⟩
set_option maxRecDepth 100000 in
set_option maxHeartbeats 1000000 in
theorem values_iter (B n c : Nat) (A : Option Addr) (ns : List (List UInt8)) (w : World) (hb : Boxed w B 114 (.slice A n c)) (hn : n = ns.length) (hl : n ≤ 1000000) (hs : Ss w A ns) (hA : ∀ ad, A = some ad → ad.block < w.heap.size) :
    Iter Tryz.prog 78 #[.pointer (some ⟨B, 0, none⟩)] (fun x : List UInt8 => #[.string ⟨x.toArray⟩]) (fun _ => False) (rdOf A) ns w := by
  intro l J Jx W hW hJ hJx hY h0
  refine callsIn_of_wp Tryz.func78 rfl trivial ?_ rfl
  have hb' : Boxed W B 114 (.slice A n c) := hW.heap hb (by simp)
  have hcp := hb'.cell
  have HS : Hid (Ss W A ns) := Lib.hid (hs.same fun k ⟨ad, e, e2⟩ => hW.block k (by rw [← e2]; exact hA ad e) (by simp))
  have Hn := Lib.hid hn
  have HY := Lib.hid hY
  have H0 := Lib.hid h0
  clear hb hb' hY hs hA hn h0
  simp only [Tryz.ntmps78, List.size_toArray, List.length_cons, List.length_nil, Nat.reduceAdd, Nat.reduceSub, Array.replicate_succ, Array.replicate_zero, List.push_toArray, List.append_toArray, List.nil_append, List.cons_append]
  gi_wp2
  gi_loopw [4, 7] (fun _ i wr => ∃ j : Nat, i = .int .i64 j ∧ j ≤ n ∧ Hid (J (ns.take j) wr) ∧ Hid (Ss wr A ns)) (fun _ i _ => n - iNat i)
  case atStart => exact ⟨0, rfl, by omega, Lib.hid (by simpa using H0.out), HS⟩
  case round =>
    obtain ⟨j, rfl, hj, hJ1, hS1⟩ := hrel
    by_cases hlt : j < n
    · have hlt' : (j : Int) < (n : Int) := by omega
      have hjn : j < ns.length := by have := Hn.out; omega
      obtain ⟨x, hx⟩ : ∃ x, ns[j]? = some x := ⟨_, List.getElem?_eq_getElem hjn⟩
      have hd : ns.drop j = x :: ns.drop (j + 1) := by
        rw [List.drop_eq_getElem_cons hjn, (List.getElem?_eq_some_iff.1 hx).2]
      obtain ⟨ad, rfl, hc⟩ := hS1.out j x hx
      obtain ⟨fn, tmps, assign, body, hy, hR⟩ := HY.out (ns.take j) x (ns.drop (j + 1)) wr (by rw [← hd, List.take_append_drop]) hJ1.out
      have HR := Lib.hid hR
      have Hx := Lib.hid hx
      have Hd := Lib.hid hd
      clear hR hjn hx hd
      gi_wp2
      refine HR.out.mono ?_
      rintro e W3 (⟨rfl, hJ3, _, hk3⟩ | ⟨rfl, hJx3⟩)
      · have HJ3 := Lib.hid hJ3
        have HS3 := Lib.hid (hS1.out.same hk3)
        clear hJ3 hk3
        gi_wp2
        go_roundw
        case rel =>
          refine ⟨j + 1, congrArg (Value.int .i64) (by omega), by omega, Lib.hid ?_, HS3⟩
          rw [List.take_add_one, Hx.out]
          exact HJ3.out
        case measure => simp only [iNat]; omega
      · gi_wp2
        refine bodyPost_ret (results_none rfl _ _ _) rfl ?_
        refine ⟨⟨_, rfl⟩, .inr ⟨_, ?_, hJx3⟩⟩
        refine ⟨ns.drop (j + 1), ?_⟩
        rw [List.append_assoc, List.singleton_append, ← Hd.out, List.take_append_drop]
    · have hlt' : ¬ (j : Int) < (n : Int) := by omega
      gi_wp2
      refine bodyPost_end (results_none rfl _ _ _) rfl ?_
      have : ns.take j = ns := List.take_of_length_le (by have := Hn.out; omega)
      exact ⟨⟨_, rfl⟩, .inl (by have h := hJ1.out; rw [this] at h; exact h)⟩
theorem Ss.of_own {w : World} {base : Nat} {v : Value} {ns : List (List UInt8)} (h : w.ownsRow base 9 1 v ns.length (ns.map encStr)) :
    ∃ A c, v = .slice A ns.length c ∧ Ss w A ns ∧ (∀ ad, A = some ad → base ≤ ad.block ∧ ad.block < w.heap.size) := by
  rcases h.2 with ⟨hv, h0⟩ | ⟨g, cap, cur, hv, hb, hh, _, _, hc, ht⟩
  · have : ns = [] := List.eq_nil_of_length_eq_zero h0
    subst this
    exact ⟨none, 0, hv, fun j x hx => by simp at hx, fun ad e => (by cases e)⟩
  · refine ⟨_, cap, hv, fun j x hx => ⟨_, rfl, ?_⟩, fun ad e => ?_⟩
    · have hj : j < ns.length := (List.getElem?_eq_some_iff.1 hx).1
      have hu : (ns.map encStr)[j]? = some (encStr x) := by simp [hx]
      rw [← ht, List.getElem?_take_of_lt (by omega)] at hu
      have e1 : (⟨g, 0, none⟩ : Addr).add j = ⟨g, j, none⟩ := by unfold Addr.add; split <;> simp_all
      rw [e1]
      simp only [World.cell?, hh]
      simpa using hu
    · cases e
      exact ⟨hb, (Array.getElem?_eq_some_iff.1 hh).1⟩
theorem valuesS_of (A : Option Addr) (n c : Nat) (w : World) : Calls Tryz.prog 60 #[.slice A n c] w fun e w' => e = .returned (.func (.func 78) #[] #[.pointer (some ⟨w.heap.size, 0, none⟩)]) ∧ w' = w.alloc (.cells #[.slice A n c] 114) := by
  go_enter Tryz.func60, Tryz.ntmps60
  go_wp2
  go_ret
  exact ⟨rfl, rfl⟩
/-- List: an iterator over the names, sorted. -/
def ListPost (w : World) (ps : List PF) (e : Ending) (w' : World) : Prop :=
  ∃ B A c, e = .returned (.func (.func 78) #[] #[.pointer (some ⟨B, 0, none⟩)]) ∧ Boxed w' B 114 (.slice A (sortN ps).length c) ∧ Ss w' A (sortN ps) ∧ (∀ ad, A = some ad → w.heap.size ≤ ad.block ∧ ad.block < w'.heap.size) ∧ w.heap.size ≤ B ∧ Kept (fun _ => False) w w'
set_option maxHeartbeats 1000000 in
theorem list_any (w : World) (F M : Nat) (ps : List PF) (clock : Nat) (lim arm : Int) (dn : Bool) (h : FilesAt w F M ps clock lim arm dn) (hn : ps.length ≤ 1000000) (hm : ∀ p ∈ ps, p.name.size ≤ 1000000) :
    Calls Tryz.prog 35 #[.pointer (some ⟨F, 0, none⟩)] w (ListPost w ps) := by
  have HS := Lib.hid (sorted_any w F M ps clock lim arm dn h hn hm)
  clear h hn hm
  go_enter Tryz.func35, Tryz.ntmps35
  go_wp2_with (first
    | (go_at_call 61; refine HS.out.mono ?_; rintro e w1 ⟨v, rfl, hown, hk⟩; obtain ⟨A, c, rfl, hs, ha⟩ := Ss.of_own hown; have HSs := Lib.hid hs; have HA := Lib.hid ha; have HK := Lib.hid hk; clear hown hs ha hk)
    | (go_at_call 60; refine (valuesS_of _ _ _ _).mono ?_; rintro e w' ⟨rfl, rfl⟩))
  go_ret
  refine ⟨w1.heap.size, A, c, rfl, Boxed.new w1 114 _, HSs.out.same fun k ⟨ad, e, e2⟩ => Below.heap_alloc _ _ _ (by rw [← e2]; exact (HA.out ad e).2), fun ad e => ⟨(HA.out ad e).1, by have := (HA.out ad e).2; simp; omega⟩, HK.out.size, HK.out.alloc _⟩
end Go.Proofs.YtibalgfejfjndaaGreatDoor
end

/-! Regions that draw their order inside a round of a range over a function: what holds of them outside a round holds inside, where no operation calls. -/
section
set_option linter.unusedVariables false
set_option linter.unusedSimpArgs false
namespace Go.Proofs.YtibalgfejfjndaaGreatDoor
/-- Operations that call no function and are no statement of control: they yield a value, or nothing, or halt. -/
def plainB : Op → Bool
  | .nilCheck _ | .move _ | .assign _ | .pick .. | .alloc _ | .box .. | .build .. | .load .. | .store .. | .binOp .. | .unOp .. | .convert .. | .makeFunc .. | .makeMap .. | .makeSlice .. | .slice .. | .fieldAddr .. | .field .. | .indexAddr .. | .index .. | .lookup .. | .mapUpdate .. | .mapEntry .. | .entryStore .. | .extract .. | .range .. | .next .. | .entry .. => true
  | .call { callee := .builtin .len, .. } => true
  | .call { callee := .builtin .append, .. } => true
  | .call { callee := .builtin .min, .. } => true
  | .call { callee := .builtin .max, .. } => true
  | _ => false
def nextB : Next → Bool
  | .value _ | .skip => true
  | _ => false
def resPlain : Result Next → Prop
  | .ok n _ => nextB n = true
  | .halt _ _ => True
theorem plain_bind {α : Type} {P : Program} {w : World} (s : Sem α) (f : α → Next) (hf : ∀ x, nextB (f x) = true) : resPlain (Sem.run P (s.bind fun x => Sem.pure (f x)) w) := by
  rw [Sem.run_bind']
  cases s.run P w
  · exact hf _
  · trivial
theorem halt_plain {P : Program} {w : World} {s : Sem Next} (h : ∀ n w', s.run P w ≠ .ok n w') : resPlain (s.run P w) := by
  cases hr : s.run P w with
  | ok n w' => exact absurd hr (h n w')
  | halt x w' => trivial
theorem nil_plain {P : Program} {w : World} {o : Oper} {ρ : Operand → Value} {x : Operand} (ho : o.op = .nilCheck x) : resPlain ((execOp ρ o).run P w) := by
  unfold execOp
  rw [ho]
  simp only
  split
  · trivial
  · trivial
  · trivial
  · split
    · trivial
    · simp only [bind, Sem.run_bind']
      generalize Sem.run P _ w = r
      cases r with
      | ok a w1 =>
        simp only [Result.andThen]
        generalize Sem.run P _ w1 = r2
        cases r2 with
        | ok b w2 =>
          simp only
          split
          · trivial
          · trivial
        | halt y w2 => trivial
      | halt y w1 => trivial
    · trivial
  · trivial
theorem execOp_plain {P : Program} {o : Oper} {ρ : Operand → Value} {w : World} (h : plainB o.op = true) : resPlain ((execOp ρ o).run P w) := by
  unfold execOp
  cases ho : o.op <;> rw [ho] at h <;> first | (have hn := nil_plain (P := P) (w := w) (ρ := ρ) ho; unfold execOp at hn; rw [ho] at hn; exact hn) | exact (plain_bind _ _ fun _ => rfl) | (show nextB (Next.value _) = true; rfl) | (exfalso; revert h; simp [plainB]; done) | skip
  rename_i c
  obtain ⟨cal, args, tys⟩ := c
  cases cal with
  | value f => simp [plainB] at h
  | invoke r m => simp [plainB] at h
  | builtin b =>
    cases b <;> first | (simp [plainB] at h; done) | skip
    all_goals
      show resPlain (Sem.run P ((resolve ρ _ o.type).bind fun d => invoke d.target d.args) w)
      simp only [resolve, pure, Sem.bind, invoke, builtin]
      exact plain_bind _ _ fun _ => rfl
variable {F : Fence} {n : Nat} {P : Program}
theorem about_plain {o : Oper} {ρ : Operand → Value} {w : World} (h : plainB o.op = true) : o.about P w ρ = none := by
  unfold Oper.about
  cases ho : o.op <;> rw [ho] at h <;> first | rfl | (exfalso; revert h; simp [plainB]; done) | skip
  rename_i c
  obtain ⟨cal, args, tys⟩ := c
  cases cal with
  | value f => simp [plainB] at h
  | invoke r m => simp [plainB] at h
  | builtin b => simp [resolve, Target.leads, pure, Sem.run]
theorem wpIn_of_wp {o : Oper} {a : Act} {w : World} {K : Act → World → Prop} {Q : Exit → Act → World → Prop} (hp : plainB o.op = true) (h : o.wp P a w K Q) : o.wpIn F n P a w K Q := by
  unfold Oper.wpIn
  refine ⟨fun f hf => (by rw [about_plain hp] at hf; cases hf), ?_⟩
  rw [Oper.semAt_eq _ _ _ (fun c hc => by rw [hc] at hp; cases hp)]
  have hr := execOp_plain (P := P) (ρ := a.eval) (w := w) hp
  unfold Oper.wp at h
  generalize (execOp a.eval o).run P w = r at *
  cases r with
  | ok nx w' => cases nx <;> first | (simp [resPlain, nextB] at hr; done) | exact h
  | halt x w' => cases x <;> exact h
theorem wpAnyIn_of_wpAny {md : Region.Mode} {ops : Array Oper} {Q : Exit → Act → World → Prop} (hp : ∀ (i : Nat) (o : Oper), ops[i]? = some o → plainB o.op = true) (hQ : ¬ LetsOut Q) : ∀ (fuel : Nat) (listed : Array Bool) (a : Act) (w : World),
    wpAny P md ops Q fuel listed a w → wpAnyIn F n P md ops Q fuel listed a w
  | 0, _, _, _, h => h
  | fuel + 1, listed, a, w, h => by
    refine ⟨h.1, fun i hi => ?_⟩
    have := h.2 i hi
    unfold wpOp at this
    unfold wpOpIn
    cases ho : ops[i]? with
    | none => rw [ho] at this; exact wpAnyIn_of_wpAny hp hQ fuel _ _ _ this
    | some o =>
      simp only [ho] at this ⊢
      split
      · rename_i hw
        simp only [hw, if_true] at this
        rcases this with this | ⟨_, h2⟩
        · exact Oper.wpIn_mono (fun a w h => wpAnyIn_of_wpAny hp hQ fuel _ a w h) (wpIn_of_wp (hp i o ho) this)
        · exact absurd h2 hQ
      · rename_i hw
        simp only [hw] at this
        exact ⟨fun f hf => (by rw [about_plain (hp i o ho)] at hf; cases hf), wpAnyIn_of_wpAny hp hQ fuel _ _ _ this⟩
/-- The region's own law in that form. -/
theorem wpAny_still_tail {Q : Exit → Act → World → Prop} {a : Act} {w : World} {l : List Oper} (n : Nat) (hB : Region.lexTailB .any l.toArray n = true)
    (h : wpStill P l.toArray { w with drawn := w.drawn + 1 } (fun a' => wpList P l.toArray Q (l.drop n) a' { w with drawn := w.drawn + 1 }) (l.take n) a) :
    wpAny P .any l.toArray Q l.toArray.size (Array.replicate l.toArray.size false) a { w with drawn := w.drawn + 1 } := by
  simp only [Region.lexTailB, Bool.and_eq_true, decide_eq_true_eq] at hB
  obtain ⟨⟨⟨⟨hsel, hn⟩, hs⟩, hc⟩, hlex⟩ := hB
  have hn' : n < l.length := by simpa using hn
  have htl : (l.take n).length = n := by simp; omega
  have hdl : (l.drop n).length = l.toArray.size - n := by simp
  have inv0 : HeadInv .any l.toArray n (Array.replicate l.toArray.size false) :=
    ⟨by simp, fun j oj _ hl => (by rw [getD_replicate_false] at hl; cases hl), fun t _ ht => getD_in (by simpa using ht) (getD_replicate_false _ _)⟩
  have H := wpAnyL_lex (md := .any) (g := l.toArray.size - n) hsel hs hc hn (l.take n) 0 _ a (fun j hj => by
    have hj' : j < n := by rw [htl] at hj; exact hj
    simp [hj']) (by simpa using htl) inv0 (by rw [htl]; exact hlex) h
  have := wpAny_of_head (Q' := Q) (g := l.toArray.size - n) (fun listed a' hL => by
    have := wpAny_of_seq (md := .any) (Q' := Q) (l.drop n) n listed a' { w with drawn := w.drawn + 1 } (fun j => by simp [List.getElem?_drop]) (by rw [hdl]; exact hL.1) hL.2
    rwa [hdl] at this) _ _ _ H
  rw [htl, show n + (l.toArray.size - n) = l.toArray.size by omega] at this
  exact this
/-- A region that draws its order, in a round: reads, then one tail of writes. -/
theorem wpIn_still_tail {id : Nat} {Q : Exit → Act → World → Prop} {a : Act} {w : World} {l : List Oper} (k : Nat) (hm : P.follows .mixedOrders = true) (hB : Region.lexTailB .any l.toArray k = true)
    (hp : (l.all fun o => plainB o.op) = true) (hQ : ¬ LetsOut Q)
    (h : wpStill P l.toArray { w with drawn := w.drawn + 1 } (fun a' => wpList P l.toArray Q (l.drop k) a' { w with drawn := w.drawn + 1 }) (l.take k) a) : (Code.region id l.toArray true).wpIn F n P Q a w :=
  wpIn_region_any hm (wpAnyIn_of_wpAny (fun i o ho => List.all_eq_true.1 hp o (by simpa using List.mem_of_getElem? (by simpa using ho))) hQ _ _ _ _ (wpAny_still_tail k hB h))
/-! ### A region with calls of one function -/
def callsB (f : Nat) : Op → Bool
  | .call { callee := .value (.func g), .. } => g == f
  | _ => false
theorem wpIn_call {l : Nat} {o : Oper} {a : Act} {w : World} {K : Act → World → Prop} {Q : Exit → Act → World → Prop} {f : Nat} (he : ∀ args w, (callFunc f args).run P w = .ok (.enter f args) w) (hp : callsB f o.op = true) (h : o.wp P a w K Q) :
    o.wpIn (Fence.wide.inRound l) n P a w K Q := by
  cases ho : o.op <;> rw [ho] at hp <;> first | (exfalso; revert hp; simp [callsB]; done) | skip
  rename_i c
  obtain ⟨cal, args, tys⟩ := c
  cases cal with
  | builtin b => simp [callsB] at hp
  | invoke r m => simp [callsB] at hp
  | value g =>
    cases g <;> first | (exfalso; revert hp; simp [callsB]; done) | skip
    rename_i g
    have hg : g = f := by simpa [callsB] using hp
    subst hg
    unfold Oper.wpIn
    refine ⟨fun f hf => trivial, ?_⟩
    rw [Oper.semAt_eq _ _ _ (fun c hc => by rw [ho] at hc; cases hc)]
    unfold Oper.wp at h
    have hr : (execOp a.eval o).run P w = .ok (.enter g (args.map a.eval)) w := by
      simp [execOp, ho, resolve, invoke, Act.eval, go_sem, he]
    rw [hr] at h ⊢
    exact ⟨fun e => (by cases e), CallsIn.inRound l (callsIn_wide.2 h)⟩
theorem wpAnyIn_of_calls {l : Nat} {f : Nat} (he : ∀ args w, (callFunc f args).run P w = .ok (.enter f args) w) {md : Region.Mode} {ops : Array Oper} {Q : Exit → Act → World → Prop} (hp : ∀ (i : Nat) (o : Oper), ops[i]? = some o → (plainB o.op || callsB f o.op) = true) (hQ : ¬ LetsOut Q) : ∀ (fuel : Nat) (listed : Array Bool) (a : Act) (w : World),
    wpAny P md ops Q fuel listed a w → wpAnyIn (Fence.wide.inRound l) n P md ops Q fuel listed a w
  | 0, _, _, _, h => h
  | fuel + 1, listed, a, w, h => by
    refine ⟨h.1, fun i hi => ?_⟩
    have := h.2 i hi
    unfold wpOp at this
    unfold wpOpIn
    cases ho : ops[i]? with
    | none => rw [ho] at this; exact wpAnyIn_of_calls he hp hQ fuel _ _ _ this
    | some o =>
      have hpo := hp i o ho
      simp only [ho] at this ⊢
      split
      · rename_i hw
        simp only [hw, if_true] at this
        rcases this with this | ⟨_, h2⟩
        · refine Oper.wpIn_mono (fun a w h => wpAnyIn_of_calls he hp hQ fuel _ a w h) ?_
          rcases Bool.or_eq_true_iff.1 hpo with hpo | hpo
          · exact wpIn_of_wp hpo this
          · exact wpIn_call he hpo this
        · exact absurd h2 hQ
      · rename_i hw
        simp only [hw] at this
        exact ⟨fun f hf => trivial, wpAnyIn_of_calls he hp hQ fuel _ _ _ this⟩
theorem wpIn_region_calls {r f id : Nat} {Q : Exit → Act → World → Prop} {a : Act} {w : World} {l : List Oper} (hm : P.follows .mixedOrders = true) (hp : (l.all fun o => plainB o.op || callsB f o.op) = true)
    (he : ∀ args w, (callFunc f args).run P w = .ok (.enter f args) w) (hQ : ¬ LetsOut Q) (h : wpAny P .any l.toArray Q l.toArray.size (Array.replicate l.toArray.size false) a w.drew) : (Code.region id l.toArray true).wpIn (Fence.wide.inRound r) n P Q a w :=
  wpIn_region_any hm (wpAnyIn_of_calls he (fun i o ho => List.all_eq_true.1 hp o (by simpa using List.mem_of_getElem? (by simpa using ho))) hQ _ _ _ _ h)
theorem wpIn_still_drew {id : Nat} {Q : Exit → Act → World → Prop} {a : Act} {w : World} {l : List Oper} (k : Nat) (hm : P.follows .mixedOrders = true) (hB : Region.lexTailB .any l.toArray k = true)
    (hp : (l.all fun o => plainB o.op) = true) (hQ : ¬ LetsOut Q)
    (h : wpStill P l.toArray w.drew (fun a' => wpList P l.toArray Q (l.drop k) a' w.drew) (l.take k) a) : (Code.region id l.toArray true).wpIn F n P Q a w := wpIn_still_tail k hm hB hp hQ h
end Go.Proofs.YtibalgfejfjndaaGreatDoor
end
