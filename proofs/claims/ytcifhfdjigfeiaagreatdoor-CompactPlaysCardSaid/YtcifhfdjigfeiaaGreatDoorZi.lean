import Derived.Test.YtcifhfdjigfeiaaGreatDoorZh
import Derived.Test.YtcifhfdjigfeiaaGreatDoorZd
/-! compact: how a store lies; met, ready, Size, All; what a nil store answers. -/
section
set_option linter.unusedVariables false
set_option linter.unusedSimpArgs false
namespace Go.Proofs.YtcifhfdjigfeiaaGreatDoor
open Go.RowKit

/-- The block of a store. -/
def SB (w : World) (T F : Nat) (nm : ByteArray) (v : Value) (next size : Nat) (dead : Bool) : Prop := w.heap[T]? = some (.cells #[.pointer (some ⟨F, 0, none⟩), .string nm, v, .int .u64 (next : Nat), .int .i64 (size : Nat), .bool dead] 63 (0, 0))
section
variable {w : World} {T F : Nat} {nm : ByteArray} {v : Value} {next size : Nat} {dead : Bool}
theorem SB.c0 (h : SB w T F nm v next size dead) : w.cell? ⟨T, 0, none⟩ = some (.pointer (some ⟨F, 0, none⟩)) := by simp [World.cell?, show w.heap[T]? = _ from h]
theorem SB.c1 (h : SB w T F nm v next size dead) : w.cell? ⟨T, 1, none⟩ = some (.string nm) := by simp [World.cell?, show w.heap[T]? = _ from h]
theorem SB.c2 (h : SB w T F nm v next size dead) : w.cell? ⟨T, 2, none⟩ = some v := by simp [World.cell?, show w.heap[T]? = _ from h]
theorem SB.c3 (h : SB w T F nm v next size dead) : w.cell? ⟨T, 3, none⟩ = some (.int .u64 (next : Nat)) := by simp [World.cell?, show w.heap[T]? = _ from h]
theorem SB.c4 (h : SB w T F nm v next size dead) : w.cell? ⟨T, 4, none⟩ = some (.int .i64 (size : Nat)) := by simp [World.cell?, show w.heap[T]? = _ from h]
theorem SB.c5 (h : SB w T F nm v next size dead) : w.cell? ⟨T, 5, none⟩ = some (.bool dead) := by simp [World.cell?, show w.heap[T]? = _ from h]
theorem SB.fz (h : SB w T F nm v next size dead) (i : Nat) : w.frozen? ⟨T, i, none⟩ = false := by simp [World.frozen?, show w.heap[T]? = _ from h]
theorem SB.s2 (h : SB w T F nm v next size dead) (u : Value) : SB (w.setCell ⟨T, 2, none⟩ u) T F nm u next size dead := by
  unfold SB World.setCell; simp only [Array.getElem?_modify, if_true, show w.heap[T]? = _ from h]; rfl
theorem SB.s3 (h : SB w T F nm v next size dead) (u : Nat) : SB (w.setCell ⟨T, 3, none⟩ (.int .u64 (u : Nat))) T F nm v u size dead := by
  unfold SB World.setCell; simp only [Array.getElem?_modify, if_true, show w.heap[T]? = _ from h]; rfl
theorem SB.s4 (h : SB w T F nm v next size dead) (u : Nat) : SB (w.setCell ⟨T, 4, none⟩ (.int .i64 (u : Nat))) T F nm v next u dead := by
  unfold SB World.setCell; simp only [Array.getElem?_modify, if_true, show w.heap[T]? = _ from h]; rfl
theorem SB.s5 (h : SB w T F nm v next size dead) (u : Bool) : SB (w.setCell ⟨T, 5, none⟩ (.bool u)) T F nm v next size u := by
  unfold SB World.setCell; simp only [Array.getElem?_modify, if_true, show w.heap[T]? = _ from h]; rfl
end
set_option maxHeartbeats 1000000 in
theorem met_any (w : World) (T F : Nat) (nm : ByteArray) (v : Value) (next size : Nat) (dead : Bool) (er : Int) (h : SB w T F nm v next size dead) :
    Calls Tryz.prog 39 #[.pointer (some ⟨T, 0, none⟩), .int .i64 er] w fun e w' => e = .returned (.int .i64 er) ∧ SB w' T F nm v next size (dead || er == 13) ∧ Kept (fun k => k = T) w w' := by
  have H := Lib.hid h
  have c5 := h.c5
  have f5 := h.fz 5
  clear h
  cases dead
  · go_enter Tryz.func39, Tryz.ntmps39
    go_wp2
    go_ret
    exact ⟨rfl, by simpa using H.out.s5 _, (Kept.refl (fun k => k = T) w).setCell (fun _ => rfl) _⟩
  · go_enter Tryz.func39, Tryz.ntmps39
    go_wp2
    go_ret
    exact ⟨rfl, by simpa using H.out.s5 _, (Kept.refl (fun k => k = T) w).setCell (fun _ => rfl) _⟩
set_option maxHeartbeats 1000000 in
theorem ready_nil_store (w : World) : Calls Tryz.prog 37 #[.pointer none] w fun e w' => e = .returned (.int .i64 2) ∧ w' = w := by
  go_enter Tryz.func37, Tryz.ntmps37
  go_wp2
  go_ret
  exact ⟨rfl, rfl⟩
set_option maxHeartbeats 1000000 in
theorem cready_ok (w : World) (T F M : Nat) (nm : ByteArray) (v : Value) (next size : Nat) (lim arm : Int) (h : SB w T F nm v next size false) (hf : FB w F M lim arm false) :
    Calls Tryz.prog 37 #[.pointer (some ⟨T, 0, none⟩)] w fun e w' => e = .returned (.int .i64 0) ∧ w' = w := by
  have c0 := h.c0
  have c5 := h.c5
  have HD := Lib.hid (down_any w F M lim arm false hf)
  clear h hf
  go_enter Tryz.func37, Tryz.ntmps37
  go_wp2_with (go_at_call 18; refine HD.out.mono ?_; rintro e w9 ⟨rfl, rfl⟩)
  go_ret
  exact ⟨rfl, rfl⟩
set_option maxHeartbeats 1000000 in
theorem cput_nil (w : World) (l : Value) : Calls Tryz.prog 21 #[.pointer none, l] w fun e w' => e = .returned (.int .i64 2) ∧ w' = w := by
  go_enter Tryz.func21, Tryz.ntmps21
  go_wp2_with (go_at_call 37; refine (ready_nil_store _).mono ?_; rintro e w ⟨rfl, rfl⟩)
  go_ret
  exact ⟨rfl, rfl⟩
set_option maxHeartbeats 1000000 in
theorem ccompact_nil (w : World) : Calls Tryz.prog 17 #[.pointer none] w fun e w' => e = .returned (.int .i64 2) ∧ w' = w := by
  go_enter Tryz.func17, Tryz.ntmps17
  go_wp2_with (go_at_call 37; refine (ready_nil_store _).mono ?_; rintro e w ⟨rfl, rfl⟩)
  go_ret
  exact ⟨rfl, rfl⟩
set_option maxHeartbeats 1000000 in
theorem call_nil (w : World) : Calls Tryz.prog 12 #[.pointer none] w fun e w' => e = .returned (.slice none 0 0) ∧ w' = w := by
  go_enter Tryz.func12, Tryz.ntmps12
  go_wp2
  go_ret
  exact ⟨rfl, rfl⟩
set_option maxHeartbeats 1000000 in
theorem open_nil (w : World) (nm : ByteArray) : Calls Tryz.prog 5 #[.pointer none, .string nm] w fun e w' => e = .returned (.tuple #[.pointer none, .int .i64 2]) ∧ w' = w := by
  go_enter Tryz.func5, Tryz.ntmps5
  go_wp2
  go_ret2
  exact ⟨rfl, rfl⟩
end Go.Proofs.YtcifhfdjigfeiaaGreatDoor
end

/-! compact.Open: a name that may not be; no file yet. -/
section
set_option linter.unusedVariables false
set_option linter.unusedSimpArgs false
namespace Go.Proofs.YtcifhfdjigfeiaaGreatDoor
open Go.RowKit

def dotK : ByteArray := ⟨#[46, 107]⟩
def dotT : ByteArray := ⟨#[46, 116]⟩
theorem SB.kept' {w w' : World} {T F : Nat} {nm : ByteArray} {v : Value} {next size : Nat} {dead : Bool} (h : SB w T F nm v next size dead) (hk : Kept (fun _ => False) w w') : SB w' T F nm v next size dead := hk.heap h (by simp)
theorem SB.kept {S : Nat → Prop} {w w' : World} {T F : Nat} {nm : ByteArray} {v : Value} {next size : Nat} {dead : Bool} (h : SB w T F nm v next size dead) (hk : Kept S w w') (hS : ¬ S T) : SB w' T F nm v next size dead := hk.heap h hS
theorem size_dotK (nm : ByteArray) : (nm ++ dotK).size = nm.size + 2 := by rw [ByteArray.size_append]; rfl
set_option maxRecDepth 100000 in
set_option maxHeartbeats 2000000 in
theorem open_bad (w : World) (F : Nat) (nm : ByteArray) (hs : nm.size ≤ 1000000) (hf : fullB (nm ++ dotK) = false) :
    Calls Tryz.prog 5 #[.pointer (some ⟨F, 0, none⟩), .string nm] w fun e w' => e = .returned (.tuple #[.pointer none, .int .i64 6]) ∧ Kept (fun _ => False) w w' := by
  have HF := Lib.hid (full_any (nm ++ dotK) w (by rw [size_dotK]; omega))
  rw [hf] at HF
  have hs1 : nm.size ≤ 9223372036854775805 := by omega
  have hs2 : nm.size + 2 ≤ 9223372036854775807 := by omega
  unfold dotK at HF
  clear hf
  go_enter Tryz.func5, Tryz.ntmps5
  go_wp2_with (go_at_call 25; refine HF.out.mono ?_; rintro e w1 ⟨rfl, hk⟩; have HK := Lib.hid hk; clear hk)
  go_ret2
  exact ⟨rfl, HK.out⟩
theorem build_store (F : Nat) (nm : ByteArray) (W : World) : (Instr.build 63 #[(0, .pointer (some ⟨F, 0, none⟩)), (1, .string nm)]).run Tryz.prog W = .ok (.agg #[.pointer (some ⟨F, 0, none⟩), .string nm, .slice none 0 0, .int .u64 0, .int .i64 0, .bool false]) W := by kernel_rfl
set_option maxRecDepth 100000 in
set_option maxHeartbeats 4000000 in
theorem open_new (w : World) (F M : Nat) (ps : List PF) (clock : Nat) (lim arm : Int) (nm : ByteArray) (hs : nm.size ≤ 1000000) (hf : fullB (nm ++ dotK) = true) (h : FilesAt w F M ps clock lim arm false) (ht : ∀ p ∈ ps, p.name ≠ nm ++ dotT) (hk : ∀ p ∈ ps, p.name ≠ nm ++ dotK) :
    Calls Tryz.prog 5 #[.pointer (some ⟨F, 0, none⟩), .string nm] w fun e w' => ∃ T, e = .returned (.tuple #[.pointer (some ⟨T, 0, none⟩), .int .i64 0]) ∧ w.heap.size ≤ T ∧ SB w' T F nm (.slice none 0 0) 0 0 false ∧ Kept (fun _ => False) w w' := by
  have HF := Lib.hid (full_any (nm ++ dotK) w (by rw [size_dotK]; omega))
  rw [hf] at HF
  have HD : Hid (∀ W, Kept (fun _ => False) w W → Calls Tryz.prog 18 #[.pointer (some ⟨F, 0, none⟩)] W fun e w' => e = .returned (.bool false) ∧ W = w') := Lib.hid fun W hW => down_any W F M lim arm false (h.kept hW (by simp)).fb
  have HR : Hid (∀ W, Kept (fun _ => False) w W → Calls Tryz.prog 26 #[.pointer (some ⟨F, 0, none⟩), .string (nm ++ dotT)] W (Ret 8 W)) := Lib.hid fun W hW => remove_no _ _ 8 rfl W (Lib.hid (there_none (nm ++ dotT) W F M lim arm ps clock (h.kept hW (by simp)) ht))
  have HRd : Hid (∀ W, Kept (fun _ => False) w W → Calls Tryz.prog 27 #[.pointer (some ⟨F, 0, none⟩), .string (nm ++ dotK)] W (ReadPost W F M [] 8)) := Lib.hid fun W hW => read_none (nm ++ dotK) W F M lim arm ps clock (h.kept hW (by simp)) hk
  have hbu := fun W => build_store F nm W
  have hs1 : nm.size ≤ 9223372036854775805 := by omega
  have hs2 : nm.size + 2 ≤ 9223372036854775807 := by omega
  unfold dotK at HF HRd
  unfold dotT at HR
  clear hf ht hk h
  go_enter Tryz.func5, Tryz.ntmps5
  go_upto_region 8 with (first
    | (go_at_call 25; refine HF.out.mono ?_; rintro e w1 ⟨rfl, hk⟩; have HK1 := Lib.hid hk; clear hk)
    | (go_at_call 18; refine (HD.out _ HK1.out).mono ?_; rintro e w9 ⟨rfl, rfl⟩))
  obtain ⟨W2, hW2⟩ : ∃ W2, W2 = w1.alloc (.cells #[.pointer (some ⟨F, 0, none⟩), .string nm, .slice none 0 0, .int .u64 0, .int .i64 0, .bool false] 63) := ⟨_, rfl⟩
  have HS : Hid (SB W2 w1.heap.size F nm (.slice none 0 0) 0 0 false) := Lib.hid (by rw [hW2]; exact heap_alloc_new w1 _)
  have HK2 : Hid (Kept (fun _ => False) w W2) := Lib.hid (by rw [hW2]; exact HK1.out.alloc _)
  rw [← hW2]
  clear hW2
  go_wp2_with (first
    | (go_at_call 26; refine (HR.out W2 HK2.out).mono ?_; rintro e w3 ⟨rfl, hw⟩; subst hw)
    | (go_at_call 27; refine (HRd.out W2 HK2.out).mono ?_; rintro e w4 ⟨v4, rfl, -, hk4⟩; have HK4 := Lib.hid hk4; clear hk4))
  go_ret2
  exact ⟨_, rfl, HK1.out.size, HS.out.kept' HK4.out, HK2.out.trans' HK4.out⟩
end Go.Proofs.YtcifhfdjigfeiaaGreatDoor
end

/-! compact: a store with its files; what leaves it as it is. -/
section
set_option linter.unusedVariables false
set_option linter.unusedSimpArgs false
namespace Go.Proofs.YtcifhfdjigfeiaaGreatDoor
open Go.RowKit

/-- No file, or one of that name, with those bytes. -/
def OneK (ps : List PF) (nk : ByteArray) (d : List UInt8) (made : Bool) : Prop := (ps = [] ∧ d = [] ∧ made = false) ∨ ∃ p, ps = [p] ∧ p.name = nk ∧ p.b = d ∧ made = true
theorem OneK.used {ps : List PF} {nk : ByteArray} {d : List UInt8} {m : Bool} (h : OneK ps nk d m) : usedL ps = d.length := by
  rcases h with ⟨rfl, rfl, _⟩ | ⟨p, rfl, _, rfl, _⟩ <;> simp [usedL]
/-- Pairs that lie below L. -/
def PsL (Z : Nat → Prop) (w : World) (B : Option Addr) (ms : List PV) : Prop := ∀ W, Kept (fun k => Z k) w W → PsAt W B ms
theorem PsL.stay {Z : Nat → Prop} {w w' : World} {B : Option Addr} {ms : List PV} (h : PsL Z w B ms) (hk : Kept (fun k => Z k) w w') : PsL Z w' B ms := fun W hW => h W (hk.trans' hW)
structure SAt (Z : Nat → Prop) (w : World) (T F M : Nat) (nm : ByteArray) (ps : List PF) (clock : Nat) (lim : Int) (v : Value) (qs : List PV) (next size : Nat) : Prop where
  f : FilesAt w F M ps clock lim 0 false
  sb : SB w T F nm v next size false
  row : w.ownsRow 0 53 3 v qs.length (cellsP qs)
  own : ∀ q ∈ qs, w.ownsRow 0 5 1 q.val q.b.length (q.b.map bv)
  nT : T ∉ foot F M ps
  nv : ∀ k, v.ownBlock = some k → k ∉ foot F M ps
  nq : ∀ q ∈ qs, ∀ k, q.val.ownBlock = some k → k ∉ foot F M ps
  lT : Z T
  lf : ∀ k ∈ foot F M ps, Z k
section
variable {Z : Nat → Prop} {w w' : World} {T F M : Nat} {nm : ByteArray} {ps ps' : List PF} {clock clock' : Nat} {lim : Int} {v : Value} {qs : List PV} {next size : Nat}
theorem SB.noRow {dead : Bool} {base e s n : Nat} {u : Value} {xs : List Value} (h : SB w T F nm v next size dead) (ho : w.ownsRow base e s u n xs) (he : e ≠ 63) : u.ownBlock ≠ some T := by
  intro e2
  rcases ho.2 with ⟨hv, _⟩ | ⟨g, _, _, hv, _, hh, _⟩
  · rw [hv] at e2; cases e2
  · have hg : g = T := by rw [hv] at e2; simpa [Value.ownBlock] using e2
    subst hg
    rw [show w.heap[g]? = _ from h] at hh
    simp at hh
    exact he hh.2.symm
theorem SAt.tlt (h : SAt Z w T F M nm ps clock lim v qs next size) : T < w.heap.size := (Array.getElem?_eq_some_iff.1 (show w.heap[T]? = _ from h.sb)).1
theorem SAt.stay (h : SAt Z w T F M nm ps clock lim v qs next size) (hk : Kept (fun _ => False) w w') : SAt Z w' T F M nm ps clock lim v qs next size :=
  ⟨h.f.kept hk (by simp), h.sb.kept' hk, own_kept h.row hk (by simp), fun q hq => own_kept (h.own q hq) hk (by simp), h.nT, h.nv, h.nq, h.lT, h.lf⟩
theorem SAt.went (h : SAt Z w T F M nm ps clock lim v qs next size) (g : Went w F M ps ps' clock' lim 0 false w') (hL : ∀ k, w.heap.size ≤ k → Z k) : SAt Z w' T F M nm ps' clock' lim v qs next size :=
  ⟨g.at_, h.sb.kept g.kept h.nT, own_kept h.row g.kept fun k e e2 => h.nv k e e2, fun q hq => own_kept (h.own q hq) g.kept fun k e e2 => h.nq q hq k e e2,
   fun hm => (g.feet T hm).elim h.nT fun h2 => by have := h.tlt; omega,
   fun k e hm => (g.feet k hm).elim (h.nv k e) fun h2 => by have := own_lt' h.row k e; omega,
   fun q hq k e hm => (g.feet k hm).elim (h.nq q hq k e) fun h2 => by have := own_lt' (h.own q hq) k e; omega,
   h.lT, fun k hm => (g.feet k hm).elim (h.lf k) fun h2 => hL k h2⟩
theorem SAt.turn {next' size' : Nat} (h : SAt Z w T F M nm ps clock lim v qs next size) (hs : SB w' T F nm v next' size' false) (hk : Kept (fun k => k = T) w w') : SAt Z w' T F M nm ps clock lim v qs next' size' :=
  ⟨h.f.kept hk (fun k hm e => h.nT (e ▸ hm)), hs, own_kept h.row hk fun k e e2 => h.sb.noRow h.row (by decide) (e2 ▸ e), fun q hq => own_kept (h.own q hq) hk fun k e e2 => h.sb.noRow (h.own q hq) (by decide) (e2 ▸ e), h.nT, h.nv, h.nq, h.lT, h.lf⟩
/-- Other pairs, new ones. -/
theorem SAt.pairs {w1 : World} {v' : Value} {qs' : List PV} (h : SAt Z w T F M nm ps clock lim v qs next size) (hp : OwnP w w1 v' qs') : SAt Z (w1.setCell ⟨T, 2, none⟩ v') T F M nm ps clock lim v' qs' next size ∧ Kept (fun k => k = T) w (w1.setCell ⟨T, 2, none⟩ v') := by
  have hk : Kept (fun k => k = T) w1 (w1.setCell ⟨T, 2, none⟩ v') := (Kept.refl (fun k => k = T) w1).setCell (fun _ => rfl) _
  have hk' : Kept (fun k => k = T) w (w1.setCell ⟨T, 2, none⟩ v') := (hp.kept.mono fun _ _ h => h.elim).trans' hk
  have hft : ∀ k ∈ foot F M ps, k < w.heap.size := fun k hm => h.f.lt k hm
  have hT := h.tlt
  refine ⟨⟨h.f.kept hk' (fun k hm e => h.nT (e ▸ hm)), (h.sb.kept' hp.kept).s2 v', ?_, fun q hq => ?_, h.nT, fun k e hm => ?_, fun q hq k e hm => ?_, h.lT, h.lf⟩, hk'⟩
  · exact own_kept (own_low hp.row (Nat.zero_le _)) hk fun k e e2 => by have := own_ge hp.row k e; omega
  · exact own_kept (own_low (hp.own q hq) (Nat.zero_le _)) hk fun k e e2 => by have := own_ge (hp.own q hq) k e; omega
  · have := own_ge hp.row k e; have := hft k hm; omega
  · have := own_ge (hp.own q hq) k e; have := hft k hm; omega
theorem SAt.at_ (h : SAt Z w T F M nm ps clock lim v qs next size) : ∃ A c, v = .slice A qs.length c ∧ (A = none → c = 0) ∧ qs.length ≤ c ∧ PsAt w A qs := by
  obtain ⟨A, c, h1, h2, h3, -, h4, -⟩ := row_form h.row fun q hq => PV.ok_own (h.own q hq)
  exact ⟨A, c, h1, h2, h3, h4⟩
end
set_option maxHeartbeats 1000000 in
theorem appendK (W : World) (F M : Nat) (ps : List PF) (clock : Nat) (lim : Int) (nk : ByteArray) (d : List UInt8) (made : Bool) (A : Option Addr) (n c : Nat) (xs : List UInt8) (h : FilesAt W F M ps clock lim 0 false) (ho : OneK ps nk d made) (hs : nk.size ≤ 140737488355328) (hf : fullB nk = true)
    (hx : Bs W A xs) (hn : n = xs.length) (hA : A = none → c = 0) (hfit : (xs.length : Int) + (d.length : Int) ≤ lim) (hM : ∀ ad, A = some ad → xs = [] ∨ ad.block ≠ M) :
    Calls Tryz.prog 44 #[.pointer (some ⟨F, 0, none⟩), .string nk, .slice A n c] W fun e w' => e = .returned (.int .i64 0) ∧ ∃ ps' clock', Went W F M ps ps' clock' lim 0 false w' ∧ OneK ps' nk (d ++ xs) true := by
  have hl := h.lim0.2
  have hu := ho.used
  rcases ho with ⟨rfl, rfl, _⟩ | ⟨p, rfl, hp, rfl, _⟩
  · refine (append_new nk A n c W F M lim 0 [] clock xs (by simp) hs hf h (by rw [hu]; simp) hx hn hA (by unfold Fits; rw [hu]; simp at hfit ⊢; right; omega) hM).mono ?_
    rintro e w' ⟨B, u, rfl, hw⟩
    exact ⟨rfl, _, _, hw, .inr ⟨_, rfl, rfl, by simp, rfl⟩⟩
  · have := append_old A n c W F M lim 0 [] [] p clock xs (by rw [hp]; exact hs) (by rw [hp]; exact hf) h (by show usedL [p] ≤ _; rw [hu]; omega) hx hn hA (by show Fits lim [p] n; unfold Fits; rw [hu]; right; omega)
    rw [hp] at this
    refine this.mono ?_
    rintro e w' ⟨u, rfl, hw⟩
    exact ⟨rfl, _, _, hw, .inr ⟨_, rfl, rfl, rfl, rfl⟩⟩
end Go.Proofs.YtcifhfdjigfeiaaGreatDoor
end
