import Derived.Test.YtcifhfdjigfeiaaGreatDoorVd
import Derived.Test.YtcifhfdjigfeiaaGreatDoorVt
import Derived.Test.YtcifhfdjigfeiaaGreatDoorVu
import Derived.Test.YtcifhfdjigfeiaaGreatDoorVb
import Derived.Test.YtcifhfdjigfeiaaGreatDoorVa
/-! One file "a" alone: appended to, cut, read; courantlaw16.awake. -/
section
set_option linter.unusedVariables false
set_option linter.unusedSimpArgs false
namespace Go.Proofs.YtcifhfdjigfeiaaGreatDoor
open Go.RowKit

def nmA : ByteArray := ⟨#[97]⟩
theorem nmA_full : fullB nmA = true := by kernel_rfl
/-- No file, or the file "a" alone, so long. -/
def One (ps : List PF) (xs : List UInt8) (made : Bool) : Prop := (ps = [] ∧ xs = [] ∧ made = false) ∨ ∃ p, ps = [p] ∧ p.name = nmA ∧ p.b = xs ∧ made = true
theorem One.used {ps : List PF} {xs : List UInt8} {m : Bool} (h : One ps xs m) : usedL ps = xs.length := by
  rcases h with ⟨rfl, rfl, _⟩ | ⟨p, rfl, _, rfl, _⟩ <;> simp [usedL]
structure Room (w W : World) (F M : Nat) (ps : List PF) (clock : Nat) (lim : Int) : Prop where
  at_ : FilesAt W F M ps clock lim 0 false
  new : ∀ k ∈ foot F M ps, w.heap.size ≤ k
  kept : Kept (fun _ => False) w W
variable {w W W' : World} {F M : Nat} {ps ps' : List PF} {clock clock' : Nat} {lim : Int}
theorem Room.step (h : Room w W F M ps clock lim) (k : Went W F M ps ps' clock' lim 0 false W') : Room w W' F M ps' clock' lim :=
  ⟨k.at_, fun i hi => (k.feet i hi).elim (h.new i) fun hi => Nat.le_trans h.kept.size hi, h.kept.trans k.kept fun i hi hm => by have := h.new i hm; omega⟩
theorem Room.stay (h : Room w W F M ps clock lim) (k : Kept (fun _ => False) W W') : Room w W' F M ps clock lim := ⟨h.at_.kept k (by simp), h.new, h.kept.trans' k⟩
theorem append_one (W : World) (ps : List PF) (clock : Nat) (lim : Int) (F M n c : Nat) (ad : Addr) (ys xs : List UInt8) (m : Bool) (h : FilesAt W F M ps clock lim 0 false) (ho : One ps ys m) (hx : Bs W (some ad) xs) (hn : n = xs.length)
    (hM : ad.block ≠ M) (hfit : n = 0 ∨ (n : Int) + (ys.length : Int) ≤ lim) (hu : ys.length ≤ 4194304) :
    Calls Tryz.prog 44 #[.pointer (some ⟨F, 0, none⟩), .string nmA, .slice (some ad) n c] W fun e w' => ∃ ps' clock', e = .returned (.int .i64 0) ∧ Went W F M ps ps' clock' lim 0 false w' ∧ One ps' (ys ++ xs) true := by
  have hu' := ho.used
  rcases ho with ⟨rfl, rfl, _⟩ | ⟨p, rfl, hp, rfl, _⟩
  · refine (append_new_some nmA ad n c W F M lim 0 [] clock xs (by simp) (by decide) nmA_full h (by rw [hu']; exact hu) hx hn (by unfold Fits; rw [hu']; exact hfit) (.inr hM)).mono ?_
    rintro e w' ⟨B, v, rfl, hw⟩
    exact ⟨_, _, rfl, hw, .inr ⟨_, rfl, rfl, by simp, rfl⟩⟩
  · have := append_old_some ad n c W F M lim 0 [] [] p clock xs (by rw [hp]; decide) (by rw [hp]; exact nmA_full) h (by simpa using hu'.symm ▸ hu) hx hn (by unfold Fits; simpa [hu'] using hfit)
    rw [hp] at this
    refine this.mono ?_
    rintro e w' ⟨v, rfl, hw⟩
    exact ⟨_, _, rfl, hw, .inr ⟨_, rfl, rfl, rfl, rfl⟩⟩
theorem trunc_one (W : World) (ps : List PF) (clock : Nat) (lim : Int) (F M n : Nat) (ys : List UInt8) (h : FilesAt W F M ps clock lim 0 false) (ho : One ps ys true) (hn : n ≤ ys.length) :
    Calls Tryz.prog 29 #[.pointer (some ⟨F, 0, none⟩), .string nmA, .int .i64 n] W fun e w' => ∃ ps' clock', e = .returned (.int .i64 0) ∧ Went W F M ps ps' clock' lim 0 false w' ∧ One ps' (ys.take n) true := by
  rcases ho with ⟨_, _, h0⟩ | ⟨p, rfl, hp, rfl, _⟩
  · cases h0
  · rcases Nat.lt_or_ge n p.safe with h1 | h1
    · have := trunc_lt W F M lim 0 [] [] p clock n hn h1 (by decide) h
      rw [hp] at this
      refine this.mono ?_
      rintro e w' ⟨v, rfl, hw⟩
      exact ⟨_, _, rfl, hw, .inr ⟨_, rfl, rfl, rfl, rfl⟩⟩
    · have := trunc_ge W F M lim 0 [] [] p clock n hn (by omega) (by decide) h
      rw [hp] at this
      refine this.mono ?_
      rintro e w' ⟨v, rfl, hw⟩
      exact ⟨_, _, rfl, hw, .inr ⟨_, rfl, rfl, rfl, rfl⟩⟩
theorem read_one (W : World) (ps : List PF) (clock : Nat) (lim : Int) (F M : Nat) (ys : List UInt8) (h : FilesAt W F M ps clock lim 0 false) (ho : One ps ys true) :
    Calls Tryz.prog 27 #[.pointer (some ⟨F, 0, none⟩), .string nmA] W fun e w' => ∃ A c, e = .returned (.tuple #[.slice A ys.length c, .int .i64 0]) ∧ Kept (fun _ => False) W w' := by
  rcases ho with ⟨_, _, h0⟩ | ⟨p, rfl, hp, rfl, _⟩
  · cases h0
  · have := read_some W F M lim 0 [] [] p clock h
    rw [hp] at this
    refine this.mono ?_
    rintro e w' ⟨v, rfl, hown, hk⟩
    obtain ⟨A, c, rfl, _⟩ := Bs.of_own hown
    exact ⟨A, c, rfl, hk⟩
theorem used_one (W : World) (ps : List PF) (clock : Nat) (lim : Int) (F M : Nat) (ys : List UInt8) (m : Bool) (h : FilesAt W F M ps clock lim 0 false) (ho : One ps ys m) (hu : ys.length ≤ 1000000000) :
    Calls Tryz.prog 69 #[.pointer (some ⟨F, 0, none⟩)] W fun e w' => e = .returned (.int .i64 (ys.length : Nat)) ∧ Kept (fun _ => False) W w' := by
  have hu' := ho.used
  have := used_any W F M lim 0 false ps clock h (by rw [hu']; exact hu)
  rwa [hu'] at this

/-! ### awake -/
theorem new_room (w : World) (n : Int) : Calls Tryz.prog 4 #[.int .i64 n] w fun e w' => ∃ F M, e = .returned (.pointer (some ⟨F, 0, none⟩)) ∧ Room w w' F M [] 0 (boundI n) :=
  (new_any w n).mono fun e w' ⟨F, M, he, hf, hk, h1, h2⟩ => ⟨F, M, he, hf, fun k hk' => by simp only [foot, List.flatMap_nil, List.mem_cons, List.not_mem_nil, or_false] at hk'; rcases hk' with rfl | rfl <;> assumption, hk⟩
def three : List UInt8 := [1, 2, 3]
theorem Room.ne {w W : World} {F M : Nat} {ps : List PF} {clock : Nat} {lim : Int} (h : Room w W F M ps clock lim) : W.heap.size ≠ M := by
  have := h.at_.lt M (by simp [foot]); omega
theorem bs_new (W : World) (xs : List UInt8) (cs : Array Value) (h : cs = (xs.map bv).toArray) (t : TypeId) : Bs (W.alloc (.cells cs t)) (some ⟨W.heap.size, 0, none⟩) xs := by
  refine ⟨fun e => (by cases e), fun ad e j u hu => ?_⟩
  cases e
  have hh := heap_alloc_new W (.cells cs t)
  subst h
  have e1 : (⟨W.heap.size, 0, none⟩ : Addr).add j = ⟨W.heap.size, j, none⟩ := by unfold Addr.add; split <;> simp_all
  rw [e1]
  simp only [World.cell?, hh]
  simpa using hu
def AppPost (w : World) (F M : Nat) (lim : Int) (zs : List UInt8) (e : Ending) (w' : World) : Prop :=
  ∃ ps' clock', e = .returned (.int .i64 0) ∧ Room w w' F M ps' clock' lim ∧ One ps' zs true
theorem append_room {w W : World} {F M : Nat} {ps : List PF} {clock : Nat} {lim : Int} (n c : Nat) (ad : Addr) (ys xs : List UInt8) (m : Bool) (h : Room w W F M ps clock lim) (ho : One ps ys m) (hx : Bs W (some ad) xs) (hn : n = xs.length)
    (hM : ad.block ≠ M) (hfit : n = 0 ∨ (n : Int) + (ys.length : Int) ≤ lim) (hu : ys.length ≤ 4194304) :
    Calls Tryz.prog 44 #[.pointer (some ⟨F, 0, none⟩), .string ⟨#[97]⟩, .slice (some ad) n c] W (AppPost w F M lim (ys ++ xs)) :=
  (append_one W ps clock lim F M n c ad ys xs m h.at_ ho hx hn hM hfit hu).mono fun e w' ⟨ps', clock', he, hw, ho'⟩ => ⟨ps', clock', he, h.step hw, ho'⟩
theorem three_new (W : World) : Bs (W.alloc (.cells #[.int .u8 1, .int .u8 2, .int .u8 3] 5)) (some ⟨W.heap.size, 0, none⟩) three := bs_new W three _ (by rfl) 5
end Go.Proofs.YtcifhfdjigfeiaaGreatDoor
end

/-! Nil files: Crash, Start, Fork, List; couranthelp.Seq of no strings. -/
section
set_option linter.unusedVariables false
set_option linter.unusedSimpArgs false
namespace Go.Proofs.YtcifhfdjigfeiaaGreatDoor
open Go.RowKit

theorem results_cell2 {P : Program} {fn : Func} {p q : Tmp} {ty ty' : TypeId} (h : fn.results = #[.cell p ty, .cell q ty']) (hag : ∀ w, (isAgg ty).run P w = .ok false w) (hag' : ∀ w, (isAgg ty').run P w = .ok false w) {tmps : Array Value} {a b : Addr}
    (hp : tmps.getD p undef = .pointer (some a)) (hq : tmps.getD q undef = .pointer (some b)) {w : World} {v u : Value} (hc : w.cell? a = some v) (hd : w.cell? b = some u) :
    (results fn tmps).run P w = .ok (.tuple #[v, u]) w := by
  have hp' : tmps[p]?.getD undef = .pointer (some a) := by simpa using hp
  have hq' : tmps[q]?.getD undef = .pointer (some b) := by simpa using hq
  simp [results, h, hp', hq', asAddr, loadVar, hag, hag', go_sem, hc, hd]
theorem crash_nil (a : Option Addr) (n c : Nat) (w : World) : Calls Tryz.prog 10 #[.pointer none, .slice a n c] w fun e w' => e = .returned (.tuple #[]) ∧ Kept (fun _ => False) w w' := by
  refine calls_of_marks Tryz.func10 rfl ?_
  simp only [Tryz.ntmps10, List.size_toArray, List.length_cons, List.length_nil, Nat.reduceAdd, Nat.reduceSub, Array.replicate_succ, Array.replicate_zero, List.push_toArray, List.append_toArray, List.nil_append, List.cons_append]
  go_wp2
  exact leave_none (v := .tuple #[]) (by kernel_rfl) ⟨rfl, ((Kept.refl _ _).alloc _).alloc _⟩
theorem start_nil (w : World) : Calls Tryz.prog 8 #[.pointer none] w fun e w' => e = .returned (.tuple #[]) ∧ w = w' := by
  go_enter Tryz.func8, Tryz.ntmps8
  go_wp2
  refine bodyPost_ret (results_none rfl _ _ _) rfl ?_
  exact ⟨rfl, rfl⟩
theorem sorted_nil (w : World) : Calls Tryz.prog 36 #[.pointer none] w fun e w' => e = .returned (.slice none 0 0) ∧ w = w' := by
  go_enter Tryz.func36, Tryz.ntmps36
  go_wp2
  go_ret
  exact ⟨rfl, rfl⟩
theorem valuesS_any (v : Value) (w : World) (hv : v = .slice none 0 0) : Calls Tryz.prog 35 #[v] w fun e w' => e = .returned (.func (.func 58) #[] #[.pointer (some ⟨w.heap.size, 0, none⟩)]) ∧ w' = w.alloc (.cells #[v] 36) := by
  subst hv
  go_enter Tryz.func35, Tryz.ntmps35
  go_wp2
  go_ret
  exact ⟨rfl, rfl⟩
theorem list_nil (w : World) : Calls Tryz.prog 14 #[.pointer none] w fun e w' => e = .returned (.func (.func 58) #[] #[.pointer (some ⟨w.heap.size, 0, none⟩)]) ∧ w' = w.alloc (.cells #[.slice none 0 0] 36) := by
  have HV := Lib.hid (valuesS_any (.slice none 0 0) w rfl)
  go_enter Tryz.func14, Tryz.ntmps14
  go_wp2_with (first | (go_at_call 36; refine (sorted_nil _).mono ?_; rintro e w' ⟨rfl, rfl⟩) | (go_at_call 35; refine HV.out.mono ?_; rintro e w' ⟨rfl, rfl⟩))
  go_ret
  exact ⟨rfl, rfl⟩
/-- The iterator over no strings. -/
theorem values_none_iter (B : Nat) (w : World) (hb : Boxed w B 36 (.slice none 0 0)) :
    Iter Tryz.prog 58 #[.pointer (some ⟨B, 0, none⟩)] (fun x : Empty => #[]) (fun _ => False) (fun _ => False) [] w := by
  intro l J Jx W hW hJ hJx hY h0
  refine callsIn_of_wp Tryz.func58 rfl trivial ?_ rfl
  have hb' : Boxed W B 36 (.slice none 0 0) := hW.heap hb (by simp)
  have hcp := hb'.cell
  clear hb hb' hY
  simp only [Tryz.ntmps58, List.size_toArray, List.length_cons, List.length_nil, Nat.reduceAdd, Nat.reduceSub, Array.replicate_succ, Array.replicate_zero, List.push_toArray, List.append_toArray, List.nil_append, List.cons_append]
  gi_wp2
  gi_loopw [7] (fun i wr => i = .int .i64 0 ∧ wr = W) (fun _ _ => 0)
  case atStart => exact ⟨rfl, rfl⟩
  case round =>
    obtain ⟨rfl, rfl⟩ := hrel
    gi_wp2
    refine bodyPost_end (results_none rfl _ _ _) rfl ?_
    exact ⟨⟨_, rfl⟩, .inl h0⟩
set_option maxRecDepth 100000 in
set_option maxHeartbeats 1000000 in
theorem seq_none (w : World) (B0 : Nat) (hb0 : Boxed w B0 36 (.slice none 0 0)) (n : Int) :
    Calls Tryz.prog 13 #[.func (.func 58) #[] #[.pointer (some ⟨B0, 0, none⟩)], .int .i64 n] w fun e w' => e = .returned (.tuple #[.slice none 0 0, .bool true]) ∧ Kept (fun _ => False) w w' := by
  refine calls_of_marks Tryz.func13 rfl ?_
  simp only [Tryz.ntmps13, List.size_toArray, List.length_cons, List.length_nil, Nat.reduceAdd, Nat.reduceSub, Array.replicate_succ, Array.replicate_zero, List.push_toArray, List.append_toArray, List.nil_append, List.cons_append]
  have hlt0 := (Array.getElem?_eq_some_iff.1 hb0).1
  have Hlt := Lib.hid hlt0
  have Hb0 := Lib.hid hb0
  clear hlt0 hb0
  have hne : ∀ W, (binOp .eql 40 (.func (.func 58) #[] #[.pointer (some ⟨B0, 0, none⟩)]) .nilFunc).run Tryz.prog W = .ok (.bool false) W := fun W => by kernel_rfl
  go_wp2_with fail
  obtain ⟨W0, hW0⟩ : ∃ W0, W0 = (((w.alloc (.cells #[.int .i64 n] 3)).alloc (.cells #[.slice none 0 0] 36)).alloc (.cells #[.bool false] 4)).alloc (.cells #[.slice none 0 0] 36) := ⟨_, rfl⟩
  rw [← hW0]
  obtain ⟨B, hB⟩ : ∃ B, B = w.heap.size := ⟨_, rfl⟩
  have hsz : W0.heap.size = B + 4 := by rw [hW0, hB]; simp
  have hkp : Kept (fun _ => False) w W0 := by rw [hW0]; exact ((((Kept.refl _ w).alloc _).alloc _).alloc _).alloc _
  have h1 : Boxed W0 (B + 1) 36 (.slice none 0 0) := by
    have := ((Boxed.new (w.alloc (.cells #[.int .i64 n] 3)) 36 (.slice none 0 0)).alloc (.cells #[.bool false] 4)).alloc (.cells #[.slice none 0 0] 36)
    rw [hW0, hB]; simpa using this
  have h2 : Boxed W0 (B + 2) 4 (.bool false) := by
    have := (Boxed.new ((w.alloc (.cells #[.int .i64 n] 3)).alloc (.cells #[.slice none 0 0] 36)) 4 (.bool false)).alloc (.cells #[.slice none 0 0] 36)
    rw [hW0, hB]; simpa using this
  have h3 : Boxed W0 (B + 3) 36 (.slice none 0 0) := by
    have := Boxed.new (((w.alloc (.cells #[.int .i64 n] 3)).alloc (.cells #[.slice none 0 0] 36)).alloc (.cells #[.bool false] 4)) 36 (.slice none 0 0)
    rw [hW0, hB]; simpa using this
  clear hW0
  rw [← hB]
  have HBw := Lib.hid hB
  clear hB
  have hit := values_none_iter B0 W0 (hkp.heap Hb0.out (by simp))
  refine wp_range (gf := 58) rfl (enters_of Tryz.func58 (by kernel_rfl) rfl) hit (fun x => x.elim) (fun k h => h.elim) (fun k h => h.elim)
    (fun pre W => Boxed W (B + 1) 36 (.slice none 0 0) ∧ Boxed W (B + 2) 4 (.bool false) ∧ Boxed W (B + 3) 36 (.slice none 0 0) ∧ Kept (fun _ => False) w W)
    (fun c pre W => False)
    (fun pre A C h hk => ⟨hk.heap h.1 (by rintro (h | h | h) <;> first | exact h.elim | omega), hk.heap h.2.1 (by rintro (h | h | h) <;> first | exact h.elim | omega), hk.heap h.2.2.1 (by rintro (h | h | h) <;> first | exact h.elim | omega), h.2.2.2.trans hk (fun i hi h => by have := HBw.out; rcases h with h | h | h <;> first | exact h.elim | omega)⟩)
    (fun c pre A C h hk => h.elim) ⟨h1, h2, h3, hkp⟩ (fun x => x.elim) ?assign ?body ?done ?stop
  case assign =>
    intro l x W K hK
    exact x.elim
  case body =>
    rintro l pre x post W hxs
    simp at hxs
  case done =>
    rintro W ⟨b1, b2, b3, hk⟩ hD
    have c1 := b1.cell
    have c2 := b2.cell
    have c3 := b3.cell
    have f1 := b1.frozen
    have f2 := b2.frozen
    have HD := Lib.hid hD
    have HK := Lib.hid hk
    have HB1 := Lib.hid b1
    have HB2 := Lib.hid b2
    clear b1 b2 b3 hk hD h1 h2 h3 hkp hit
    go_wp2
    refine leave_mark ((Below.heap_setCell _ _ _ _ (by simp; omega)).trans ((Below.heap_setCell _ _ _ _ (by simp; omega)).trans HD.out)) (results_cell2 rfl (fun w => by kernel_rfl) (fun w => by kernel_rfl) rfl rfl (v := .slice none 0 0) (u := .bool true) ?_ ?_) ⟨rfl, ?_⟩
    · have hb : Boxed ((W.setCell ⟨B + 1, 0, none⟩ (.slice none 0 0)).setCell ⟨B + 1 + 1, 0, none⟩ (.bool true)) (B + 1) 36 (.slice none 0 0) := (kF _ (B + 1 + 1) 0 _).heap (HB1.out.set (.slice none 0 0)) (by omega)
      exact Boxed.cell ((putObj_kept _ W0.heap.size _).heap hb (by omega))
    · have hb2 : Boxed (W.setCell ⟨B + 1, 0, none⟩ (.slice none 0 0)) (B + 1 + 1) 4 (.bool false) := (kF W (B + 1) 0 _).heap HB2.out (by omega)
      exact Boxed.cell ((putObj_kept _ W0.heap.size _).heap (hb2.set (.bool true)) (by omega))
    · exact ((HK.out.setCell (p := ⟨B + 1, 0, none⟩) (fun h => by have := HBw.out; simp at h; omega) _).setCell (p := ⟨B + 1 + 1, 0, none⟩) (fun h => by have := HBw.out; simp at h; omega) _).putObj (fun h => by have := HBw.out; omega) _
  case stop =>
    rintro c pre W hpre h
    exact h.elim
end Go.Proofs.YtcifhfdjigfeiaaGreatDoor
end
