import Derived.Test.YtcifhfdjigfeiaaGreatDoorZm
/-! compact.copied. -/
section
set_option linter.unusedVariables false
set_option linter.unusedSimpArgs false
namespace Go.Proofs.YtcifhfdjigfeiaaGreatDoor
open Go.RowKit Go.Sort
attribute [local go_sem] Oper.semAt_some

/-- Three results that lie in cells. -/
theorem results_cell3 {P : Program} {fn : Func} {p q r : Tmp} {t1 t2 t3 : TypeId} (h : fn.results = #[.cell p t1, .cell q t2, .cell r t3]) (h1 : ∀ w, (isAgg t1).run P w = .ok false w) (h2 : ∀ w, (isAgg t2).run P w = .ok false w) (h3 : ∀ w, (isAgg t3).run P w = .ok false w)
    {tmps : Array Value} {a b c : Addr} (hp : tmps.getD p undef = .pointer (some a)) (hq : tmps.getD q undef = .pointer (some b)) (hr : tmps.getD r undef = .pointer (some c)) {w : World} {u v x : Value} (ha : w.cell? a = some u) (hb : w.cell? b = some v) (hc : w.cell? c = some x) :
    (results fn tmps).run P w = .ok (.tuple #[u, v, x]) w := by
  have hp' : tmps[p]?.getD undef = .pointer (some a) := by simpa using hp
  have hq' : tmps[q]?.getD undef = .pointer (some b) := by simpa using hq
  have hr' : tmps[r]?.getD undef = .pointer (some c) := by simpa using hr
  simp [results, h, hp', hq', hr', asAddr, loadVar, h1, h2, h3, go_sem, ha, hb, hc]
/-- The variables of copied: its store, its results, its counters. -/
structure CB (B T : Nat) (W : World) (n s : Nat) : Prop where
  b0 : Boxed W B 25 (.pointer (some ⟨T, 0, none⟩))
  b1 : Boxed W (B + 1) 61 (.int .u64 0)
  b2 : Boxed W (B + 2) 3 (.int .i64 0)
  b3 : Boxed W (B + 3) 26 (.int .i64 0)
  b4 : Boxed W (B + 4) 61 (.int .u64 (n : Nat))
  b5 : Boxed W (B + 5) 3 (.int .i64 (s : Nat))
theorem CB.kept {S : Nat → Prop} {B T n s : Nat} {W W' : World} (h : CB B T W n s) (hk : Kept S W W') (hS : ∀ k, S k → k < B ∨ B + 6 ≤ k) : CB B T W' n s :=
  ⟨hk.heap h.b0 fun e => by have := hS _ e; omega, hk.heap h.b1 fun e => by have := hS _ e; omega, hk.heap h.b2 fun e => by have := hS _ e; omega, hk.heap h.b3 fun e => by have := hS _ e; omega, hk.heap h.b4 fun e => by have := hS _ e; omega, hk.heap h.b5 fun e => by have := hS _ e; omega⟩
def cbW (w : World) (T : Nat) : World := (((((w.alloc (.cells #[.pointer (some ⟨T, 0, none⟩)] 25)).alloc (.cells #[.int .u64 0] 61)).alloc (.cells #[.int .i64 0] 3)).alloc (.cells #[.int .i64 0] 26)).alloc (.cells #[.int .u64 0] 61)).alloc (.cells #[.int .i64 0] 3)
theorem cbW_kept (w : World) (T : Nat) : Kept (fun _ => False) w (cbW w T) := ((((((Kept.refl _ w).alloc _).alloc _).alloc _).alloc _).alloc _).alloc _
theorem cbW_size (w : World) (T : Nat) : (cbW w T).heap.size = w.heap.size + 6 := by simp [cbW, World.size_alloc]
theorem CB.new (w : World) (T : Nat) : CB w.heap.size T (cbW w T) 0 0 := by
  have n0 := Boxed.new w 25 (.pointer (some ⟨T, 0, none⟩))
  have n1 := Boxed.new (w.alloc (.cells #[.pointer (some ⟨T, 0, none⟩)] 25)) 61 (.int .u64 0)
  have n2 := Boxed.new ((w.alloc (.cells #[.pointer (some ⟨T, 0, none⟩)] 25)).alloc (.cells #[.int .u64 0] 61)) 3 (.int .i64 0)
  have n3 := Boxed.new (((w.alloc (.cells #[.pointer (some ⟨T, 0, none⟩)] 25)).alloc (.cells #[.int .u64 0] 61)).alloc (.cells #[.int .i64 0] 3)) 26 (.int .i64 0)
  have n4 := Boxed.new ((((w.alloc (.cells #[.pointer (some ⟨T, 0, none⟩)] 25)).alloc (.cells #[.int .u64 0] 61)).alloc (.cells #[.int .i64 0] 3)).alloc (.cells #[.int .i64 0] 26)) 61 (.int .u64 0)
  have n5 := Boxed.new (((((w.alloc (.cells #[.pointer (some ⟨T, 0, none⟩)] 25)).alloc (.cells #[.int .u64 0] 61)).alloc (.cells #[.int .i64 0] 3)).alloc (.cells #[.int .i64 0] 26)).alloc (.cells #[.int .u64 0] 61)) 3 (.int .i64 0)
  simp only [World.size_alloc] at n1 n2 n3 n4 n5
  exact ⟨((((n0.alloc _).alloc _).alloc _).alloc _).alloc _, (((n1.alloc _).alloc _).alloc _).alloc _, ((n2.alloc _).alloc _).alloc _, (n3.alloc _).alloc _, n4.alloc _, n5⟩
/-- What copied's loop holds. -/
structure CpI (w : World) (F M : Nat) (ps : List PF) (lim : Int) (nk : ByteArray) (d : List UInt8) (made : Bool) (nt : ByteArray) (T L0 L1 : Nat) (W2 : World) (l : List (List UInt8)) (W : World) : Prop where
  went : ∃ ps' clock', Went w F M ps ps' clock' lim 0 false W ∧ TwoK ps' nk d made nt (frsL 0 l) ∧ ∀ k ∈ foot F M ps', k < w.heap.size ∨ (w.heap.size + 6 ≤ k ∧ k < L0) ∨ L1 + 2 ≤ k
  cb : CB w.heap.size T W l.length (frsL 0 l).length
  keep : Kept (fun k => k < L0 ∨ L1 ≤ k) W2 W
theorem CpI.carry {w : World} {F M : Nat} {ps : List PF} {lim : Int} {nk nt : ByteArray} {d : List UInt8} {made : Bool} {T L0 L1 : Nat} {W2 W W' : World} {l : List (List UInt8)} {S : Nat → Prop} (h : CpI w F M ps lim nk d made nt T L0 L1 W2 l W) (hL : w.heap.size + 6 ≤ L0) (hL1 : L0 ≤ L1)
    (hk : Kept S W W') (hS : ∀ k, S k → L1 ≤ k ∧ k < L1 + 2) : CpI w F M ps lim nk d made nt T L0 L1 W2 l W' := by
  obtain ⟨⟨ps', c', h1, h2, h3⟩, h4, h5⟩ := h
  refine ⟨⟨ps', c', h1.off hk fun k e => ⟨fun hm => ?_, ?_⟩, h2, h3⟩, h4.kept hk fun k e => ?_, h5.trans' (hk.mono fun k _ e => .inr (hS k e).1)⟩
  · have := h3 k hm; have := hS k e; omega
  · have := hS k e; omega
  · have := hS k e; omega
/-- A round of copied. -/
theorem cp_round {w W W4 w6 w7 : World} {F M : Nat} {ps ps5 ps7 : List PF} {clk5 clk7 : Nat} {lim : Int} {nk nt : ByteArray} {d : List UInt8} {made : Bool} {T L0 L1 B4 B5 n s n6 : Nat} {l : List (List UInt8)} {x : List UInt8} (hL : w.heap.size + 6 ≤ L0) (hL1 : L0 ≤ L1) (hsz : L1 + 2 ≤ W.heap.size)
    (hw5 : Went w F M ps ps5 clk5 lim 0 false W) (hft5 : ∀ k ∈ foot F M ps5, k < w.heap.size ∨ (w.heap.size + 6 ≤ k ∧ k < L0) ∨ L1 + 2 ≤ k) (hcb5 : CB w.heap.size T W n s) (hkeep5 : Kept (fun k => k < L0 ∨ L1 ≤ k) W4 W)
    (hk6 : Kept (fun _ => False) W w6) (hw7 : Went w6 F M ps5 ps7 clk7 lim 0 false w7) (two7 : TwoK ps7 nk d made nt (frsL 0 l ++ frameB n x)) (hB4 : B4 = w.heap.size + 4) (hB5 : B5 = w.heap.size + 5) (hn : n = l.length) (hs : s = (frsL 0 l).length) (hn6 : n6 = (frameB n x).length) :
    (W.heap.size ≤ ((w7.setCell ⟨B4, 0, none⟩ (.int .u64 ((n : Int) + 1))).setCell ⟨B5, 0, none⟩ (.int .i64 ((s : Int) + (n6 : Int)))).heap.size ∧ ∀ k, (L0 ≤ k ∧ k < L1 + 2) → ((w7.setCell ⟨B4, 0, none⟩ (.int .u64 ((n : Int) + 1))).setCell ⟨B5, 0, none⟩ (.int .i64 ((s : Int) + (n6 : Int)))).heap[k]? = W.heap[k]?) ∧
      CpI w F M ps lim nk d made nt T L0 L1 W4 (l ++ [x]) ((w7.setCell ⟨B4, 0, none⟩ (.int .u64 ((n : Int) + 1))).setCell ⟨B5, 0, none⟩ (.int .i64 ((s : Int) + (n6 : Int)))) := by
  have hkf : Kept (fun k => k ∈ foot F M ps5) W w7 := (hk6.mono fun _ _ h => h.elim).trans' hw7.kept
  have hk4 : Kept (fun k => k = B4 ∨ k = B5) w7 (w7.setCell ⟨B4, 0, none⟩ (.int .u64 ((n : Int) + 1))) := (kF w7 B4 0 _).mono fun _ _ e => .inl e
  have hk5 : Kept (fun k => k = B4 ∨ k = B5) (w7.setCell ⟨B4, 0, none⟩ (.int .u64 ((n : Int) + 1))) ((w7.setCell ⟨B4, 0, none⟩ (.int .u64 ((n : Int) + 1))).setCell ⟨B5, 0, none⟩ (.int .i64 ((s : Int) + (n6 : Int)))) := (kF _ B5 0 _).mono fun _ _ e => .inr e
  have hcb7 : CB w.heap.size T w7 n s := hcb5.kept hkf fun k e => by have := hft5 k e; omega
  have b4 : Boxed ((w7.setCell ⟨B4, 0, none⟩ (.int .u64 ((n : Int) + 1))).setCell ⟨B5, 0, none⟩ (.int .i64 ((s : Int) + (n6 : Int)))) (w.heap.size + 4) 61 (.int .u64 ((n : Int) + 1)) := by
    have h1 : Boxed (w7.setCell ⟨B4, 0, none⟩ (.int .u64 ((n : Int) + 1))) (w.heap.size + 4) 61 (.int .u64 ((n : Int) + 1)) := by rw [hB4]; exact hcb7.b4.set _
    exact (kF (w7.setCell ⟨B4, 0, none⟩ (.int .u64 ((n : Int) + 1))) B5 0 (.int .i64 ((s : Int) + (n6 : Int)))).heap h1 (by omega)
  have b5 : Boxed ((w7.setCell ⟨B4, 0, none⟩ (.int .u64 ((n : Int) + 1))).setCell ⟨B5, 0, none⟩ (.int .i64 ((s : Int) + (n6 : Int)))) (w.heap.size + 5) 3 (.int .i64 ((s : Int) + (n6 : Int))) := by
    have h1 : Boxed (w7.setCell ⟨B4, 0, none⟩ (.int .u64 ((n : Int) + 1))) B5 3 (.int .i64 (s : Int)) := by
      have := (kF w7 B4 0 (.int .u64 ((n : Int) + 1))).heap hcb7.b5 (by omega)
      rw [hB5]; exact this
    have h2 := h1.set (.int .i64 ((s : Int) + (n6 : Int)))
    rw [hB5] at h2 ⊢
    exact h2
  obtain ⟨W', hW'⟩ : ∃ W', W' = (w7.setCell ⟨B4, 0, none⟩ (.int .u64 ((n : Int) + 1))).setCell ⟨B5, 0, none⟩ (.int .i64 ((s : Int) + (n6 : Int))) := ⟨_, rfl⟩
  have hkb : Kept (fun k => k = B4 ∨ k = B5) w7 W' := by rw [hW']; exact hk4.trans' hk5
  rw [← hW'] at b4 b5 ⊢
  clear hk4 hk5 hW'
  have hkb' : CB w.heap.size T W' (n + 1) (s + n6) :=
    ⟨hkb.heap hcb7.b0 (by omega), hkb.heap hcb7.b1 (by omega), hkb.heap hcb7.b2 (by omega), hkb.heap hcb7.b3 (by omega), by rw [show ((n + 1 : Nat) : Int) = (n : Int) + 1 by omega]; exact b4, by rw [show ((s + n6 : Nat) : Int) = (s : Int) + (n6 : Int) by omega]; exact b5⟩
  have hs6 := hk6.size
  have hs7 := hkf.size
  have hft7 : ∀ k ∈ foot F M ps7, k < w.heap.size ∨ (w.heap.size + 6 ≤ k ∧ k < L0) ∨ L1 + 2 ≤ k := fun k hk => by
    rcases hw7.feet k hk with h | h
    · exact hft5 k h
    · omega
  refine ⟨⟨by have := hkb.size; omega, fun k hk => ?_⟩, ⟨ps7, clk7, (hw5.trans (Went.pre hk6 hw7)).off hkb fun k e => ⟨fun hm => ?_, ?_⟩, ?_, hft7⟩, ?_, ?_⟩
  · rw [hkb.block k (by omega) (by omega)]
    exact hkf.block k (by omega) fun hm => by have := hft5 k hm; omega
  · have := hft7 k hm; omega
  · omega
  · rw [frsL_snoc, Nat.zero_add, ← hn]; exact two7
  · rw [List.length_append, List.length_singleton, frsL_snoc, List.length_append, Nat.zero_add, ← hn, ← hn6, ← hs]; exact hkb'
  · exact (hkeep5.trans' (hkf.mono fun k _ hm => by have := hft5 k hm; omega)).trans' (hkb.mono fun k _ e => by omega)
/-- The cells that the last region of copied reads. -/
def CpS (B0 B4 B5 T F : Nat) (nm : ByteArray) (n s : Nat) (W : World) : Prop := W.cell? ⟨B0, 0, none⟩ = some (.pointer (some ⟨T, 0, none⟩)) ∧ W.cell? ⟨T, 0, none⟩ = some (.pointer (some ⟨F, 0, none⟩)) ∧ W.cell? ⟨T, 1, none⟩ = some (.string nm) ∧ W.cell? ⟨B4, 0, none⟩ = some (.int .u64 (n : Nat)) ∧ W.cell? ⟨B5, 0, none⟩ = some (.int .i64 (s : Nat))
theorem CpS.off {B0 B4 B5 T F i : Nat} {nm : ByteArray} {n s : Nat} {W W' : World} (h : CpS B0 B4 B5 T F nm n s W) (hk : Kept (fun k => k = i) W W') (h0 : B0 ≠ i) (h4 : B4 ≠ i) (h5 : B5 ≠ i) (hT : T ≠ i) : CpS B0 B4 B5 T F nm n s W' :=
  ⟨hk.cell h.1 h0, hk.cell h.2.1 hT, hk.cell h.2.2.1 hT, hk.cell h.2.2.2.1 h4, hk.cell h.2.2.2.2 h5⟩
set_option maxRecDepth 100000 in
set_option maxHeartbeats 8000000 in
theorem copied_any (w : World) (T F M : Nat) (nm : ByteArray) (Av : Option Addr) (cv : Nat) (qs : List PV) (next size : Nat) (ps : List PF) (clock : Nat) (lim : Int) (d : List UInt8) (made : Bool)
    (hsb : SB w T F nm (.slice Av qs.length cv) next size false) (hf : FilesAt w F M ps clock lim 0 false) (one : OneK ps (nm ++ dotK) d made) (hT : T ∉ foot F M ps) (hl : qs.length ≤ 8000) (hcv : qs.length ≤ cv) (hA : Av = none → cv = 0) (hat : ∀ W, Kept (fun k => k ∈ foot F M ps) w W → PsAt W Av qs) (hw : ∀ q ∈ qs, wt q ≤ 3000)
    (hnm : nm.size ≤ 1000000) (hfu : fullB (nm ++ dotT) = true) (hne : nm ++ dotK ≠ nm ++ dotT) (hd : (d.length : Int) ≤ lim) (hfit : ∀ parts, Cut qs parts → (frLen parts : Int) + (d.length : Int) ≤ lim) :
    Calls Tryz.prog 38 #[.pointer (some ⟨T, 0, none⟩)] w fun e w' => ∃ parts ps' clock', Cut qs parts ∧ e = .returned (.tuple #[.int .u64 (parts.length : Nat), .int .i64 (frLen parts : Nat), .int .i64 0]) ∧ Went w F M ps ps' clock' lim 0 false w' ∧ TwoK ps' (nm ++ dotK) d made (nm ++ dotT) (frsL 0 (parts.map bytesP)) := by
  refine calls_of_marks Tryz.func38 rfl ?_
  simp only [Tryz.ntmps38, List.size_toArray, List.length_cons, List.length_nil, Nat.reduceAdd, Nat.reduceSub, Array.replicate_succ, Array.replicate_zero, List.push_toArray, List.append_toArray, List.nil_append, List.cons_append]
  have HSB := Lib.hid hsb
  have HF := Lib.hid hf
  have HOne := Lib.hid one
  have HT := Lib.hid hT
  have HA := Lib.hid hA
  have Hat := Lib.hid hat
  have Hw := Lib.hid hw
  have Hne := Lib.hid hne
  have Hfit := Lib.hid hfit
  have HlimK : Hid (0 ≤ lim ∧ lim ≤ 4194304) := Lib.hid hf.lim0
  have hs2 : nm.size + 2 ≤ 9223372036854775807 := by omega
  have hs3 : ¬ 9223372036854775807 < nm.size + 2 := by omega
  have Hd := Lib.hid hd
  have HT2 : Hid (T < w.heap.size) := Lib.hid (Array.getElem?_eq_some_iff.1 (show w.heap[T]? = _ from hsb)).1
  clear hsb hf one hT hA hat hw hne hfit hd
  go_upto_region 2 with fail
  have HCB := Lib.hid (CB.new w T)
  have HK1 := Lib.hid (cbW_kept w T)
  have HZ1 := Lib.hid (cbW_size w T)
  obtain ⟨W1, hW1⟩ : ∃ W1, W1 = cbW w T := ⟨_, rfl⟩
  rw [← hW1] at HCB HK1 HZ1
  unfold cbW at hW1
  rw [← hW1]
  obtain ⟨B5, hB5⟩ : ∃ B5, B5 = w.heap.size + 1 + 1 + 1 + 1 + 1 := ⟨_, rfl⟩
  rw [← hB5]
  obtain ⟨B4, hB4⟩ : ∃ B4, B4 = w.heap.size + 1 + 1 + 1 + 1 := ⟨_, rfl⟩
  rw [← hB4]
  obtain ⟨B3, hB3⟩ : ∃ B3, B3 = w.heap.size + 1 + 1 + 1 := ⟨_, rfl⟩
  rw [← hB3]
  obtain ⟨B2, hB2⟩ : ∃ B2, B2 = w.heap.size + 1 + 1 := ⟨_, rfl⟩
  rw [← hB2]
  obtain ⟨B1, hB1⟩ : ∃ B1, B1 = w.heap.size + 1 := ⟨_, rfl⟩
  rw [← hB1]
  obtain ⟨B0, hB0⟩ : ∃ B0, B0 = w.heap.size := ⟨_, rfl⟩
  rw [← hB0]
  have HB0 := Lib.hid hB0
  have HB1 := Lib.hid hB1
  have HB2 := Lib.hid hB2
  have HB3 := Lib.hid hB3
  have HB4 := Lib.hid hB4
  have HB5 := Lib.hid hB5
  have HF1 := Lib.hid (HF.out.kept HK1.out.drew (by simp))
  have x0 : W1.cell? ⟨B0, 0, none⟩ = some (.pointer (some ⟨T, 0, none⟩)) := by rw [HB0.out]; exact HCB.out.b0.cell
  have x1 := (HSB.out.kept' HK1.out).c0
  have x2 := (HSB.out.kept' HK1.out).c1
  clear hW1 hB0 hB1 hB2 hB3 hB4 hB5
  go_region_held3 (fun W => W.cell? ⟨B0, 0, none⟩ = some (.pointer (some ⟨T, 0, none⟩)) ∧ W.cell? ⟨T, 0, none⟩ = some (.pointer (some ⟨F, 0, none⟩)) ∧ W.cell? ⟨T, 1, none⟩ = some (.string nm)) (first | assumption | exact ⟨x0, x1, x2⟩ | exact ⟨y0, y1, y2⟩ | simp [*])
    (first
      | (go_at_call 44; refine (tnew W1.drew F M ps clock lim (nm ++ dotK) (nm ++ dotT) d made HF1.out HOne.out Hne.out (by rw [ByteArray.size_append, show dotT.size = 2 from rfl]; omega) hfu Hd.out).mono ?_; rintro e w2 ⟨rfl, ps2, clk2, hw2, two2⟩; have HW2 := Lib.hid (Went.pre HK1.out.drew hw2); have HTw2 := Lib.hid two2; have HFt2 : Hid (∀ k ∈ foot F M ps2, k < w.heap.size ∨ w.heap.size + 6 ≤ k) := Lib.hid (fun k hk => ((hw2.feet k hk).imp (fun h => HF.out.lt k h) (fun h => by have h2 : W1.drew.heap.size = W1.heap.size := rfl; rw [h2, HZ1.out] at h; exact h))); have HCB2 := Lib.hid ((HCB.out.kept (Kept.refl (fun _ => False) W1).drew (fun k e => e.elim)).kept hw2.kept (fun k hk => .inl (HF.out.lt k hk))); have HZ2 := Lib.hid hw2.kept.size; have y0 : w2.cell? ⟨B0, 0, none⟩ = some (.pointer (some ⟨T, 0, none⟩)) := (by rw [HB0.out]; exact HCB2.out.b0.cell); have y1 := (HSB.out.kept HW2.out.kept HT.out).c0; have y2 := (HSB.out.kept HW2.out.kept HT.out).c1; clear hw2 two2))
  have HSB2 := Lib.hid (HSB.out.kept HW2.out.kept HT.out)
  have HFr := Lib.hid (frames_any w2 T F nm Av qs.length cv qs next size false HSB2.out rfl hl hcv HA.out (Hat.out w2 HW2.out.kept) Hw.out)
  clear x0 x1 x2 y1 y2
  go_wp2_with (first
    | (go_at_call 62; refine HFr.out.mono ?_; rintro e w3 ⟨v3, bs, parts, rfl, ho3, hbp, hcut⟩; obtain ⟨A3, c3, rfl, hA3, hbb3, hblk3⟩ := ho3.at_; have HO3 := Lib.hid ho3; have Hbp := Lib.hid hbp; have HCut := Lib.hid hcut; have HA3 := Lib.hid hA3; have HBB3 := Lib.hid hbb3; have Hblk3 := Lib.hid hblk3; obtain ⟨nb, hnb⟩ : ∃ nb, nb = bs.length := ⟨_, rfl⟩; rw [← hnb]; have Hnb := Lib.hid hnb; clear ho3 hbp hcut hA3 hbb3 hblk3 hnb)
    | (go_at_call 61; refine (valuesBB_of _ _ _ _).mono ?_; rintro e w4 ⟨rfl, rfl⟩))
  obtain ⟨W4, hW4⟩ : ∃ W4, W4 = w3.alloc (.cells #[.slice A3 nb c3] 106) := ⟨_, rfl⟩
  rw [← hW4]
  have hk34 : Kept (fun _ => False) w3 W4 := by rw [hW4]; exact (Kept.refl _ w3).alloc _
  have hbx4 : Boxed W4 w3.heap.size 106 (.slice A3 nb c3) := by rw [hW4]; exact Boxed.new w3 106 _
  have hs4 : W4.heap.size = w3.heap.size + 1 := by rw [hW4]; simp [World.size_alloc]
  obtain ⟨L0, hL0⟩ : ∃ L0, L0 = w2.heap.size := ⟨_, rfl⟩
  obtain ⟨L1, hL1⟩ : ∃ L1, L1 = W4.heap.size := ⟨_, rfl⟩
  have hLa : w.heap.size + 6 ≤ L0 := by rw [hL0, ← HZ1.out]; exact HZ2.out
  have hLb : L0 + 1 ≤ L1 := by rw [hL0, hL1, hs4]; have := HO3.out.kept.size; omega
  have hLc : w3.heap.size < L1 := by omega
  have hk24 : Kept (fun _ => False) w2 W4 := HO3.out.kept.trans' hk34
  have h40 : Hid (CpI w F M ps lim (nm ++ dotK) d made (nm ++ dotT) T L0 L1 W4 [] W4) := Lib.hid (by
    refine ⟨⟨ps2, clk2, HW2.out.off hk24 fun k e => e.elim, HTw2.out, fun k hk => ?_⟩, HCB2.out.kept hk24 fun k e => e.elim, Kept.refl _ _⟩
    rcases HFt2.out k hk with h | h
    · exact .inl h
    · exact .inr (.inl ⟨h, by rw [hL0]; exact HW2.out.at_.lt k hk⟩))
  have hit := valuesBB_iter w3.heap.size nb c3 A3 bs W4 hbx4 Hnb.out (by
      rw [Hnb.out]
      have h1 := congrArg List.length Hbp.out
      have h2 := cut_len HCut.out
      simp only [List.length_map] at h1
      omega) (HBB3.out.kept hk34).cells (fun ad e => .inr (by have := (Hblk3.out ad e).2; omega))
  have hrd : ∀ k, (bs ≠ [] ∧ rdOf A3 k) → L0 ≤ k ∧ k < L1 := fun k ⟨_, ad, e, e2⟩ => by rw [← e2]; have := Hblk3.out ad e; omega
  have HOx : Hid (∀ x ∈ bs, ∀ W, Kept (fun k => k < L0 ∨ L1 ≤ k) W4 W → Bs W x.A x.b ∧ (x.A = none → x.c = 0)) := Lib.hid fun x hx W hk => by
    have h1 := own_kept (own_kept (HO3.out.own x hx) hk34 (by simp)) hk fun k e e2 => by
      have h2 := own_ge (HO3.out.own x hx) k e
      have h3 := own_lt' (HO3.out.own x hx) k e
      omega
    obtain ⟨A, c, h2, -, h4, h5, -⟩ := Bs.of_own h1
    simp only [BV.val, Value.slice.injEq] at h2
    obtain ⟨rfl, -, rfl⟩ := h2
    exact ⟨h4, h5⟩
  have HLa := Lib.hid hLa
  have HLb := Lib.hid hLb
  have Hrd := Lib.hid hrd
  have HL1 := Lib.hid hL1
  refine wp_range (gf := 83) rfl (enters_of Tryz.func83 (by kernel_rfl) rfl) hit (fun _ => rfl) (fun k h => h.elim) (fun k hk => by rw [← hL1]; exact (hrd k hk).2)
    (fun pre W => CpI w F M ps lim (nm ++ dotK) d made (nm ++ dotT) T L0 L1 W4 (pre.map BV.b) W)
    (fun c pre W => False)
    (fun pre A C h hk => h.carry hLa (by omega) hk fun k e => by rw [hL1]; rcases e with e | e | e; exact e.elim; omega; omega)
    (fun c pre A C h hk => h.elim)
    h40.out
    (fun x => { tmps := #[.pointer (some ⟨T, 0, none⟩), .pointer (some ⟨B0, 0, none⟩), .pointer (some ⟨B1, 0, none⟩), .pointer (some ⟨B2, 0, none⟩), .pointer (some ⟨B3, 0, none⟩), .pointer (some ⟨B4, 0, none⟩), .pointer (some ⟨B5, 0, none⟩), .int .i64 0, .slice x.A x.b.length x.c, undef, undef, .pointer (some ⟨T, 0, none⟩), .pointer (some ⟨T, 0, none⟩), .pointer (some ⟨T, 0, none⟩), .pointer (some ⟨F, 0, none⟩), .pointer (some ⟨T, 0, none⟩), .pointer (some ⟨T, 0, none⟩), .pointer (some ⟨T, 1, none⟩), .string nm, .string (nm ++ ⟨#[46, 116]⟩), .int .i64 0, .int .i64 0, .bool false, undef, .pointer (some ⟨T, 0, none⟩), .slice A3 nb c3, .func (.func 83) #[] #[.pointer (some ⟨w3.heap.size, 0, none⟩)], .slice x.A x.b.length x.c, undef, undef, undef, undef, undef, undef, undef, undef, undef, undef, undef, undef, undef, undef, undef, undef, undef, undef, undef, undef, undef, undef, undef, undef, undef, undef, undef, undef, undef, undef, undef, undef, undef, undef, undef, undef, undef, undef, undef, undef], defers := [] }) ?assign ?body ?done ?stop
  case assign =>
    intro l x W K hK
    unfold encBB
    gi_wp2
    exact hK
  case body =>
    rintro l pre x post W hxs ⟨⟨ps5, clk5, hw5, two5, hft5⟩, hcb5, hkeep5⟩ hsz
    rw [← hL1] at hsz
    have hxm : x ∈ bs := by rw [hxs]; simp
    obtain ⟨hbx, hAx⟩ := HOx.out x hxm W hkeep5
    have hpre : pre.map BV.b = (parts.take pre.length).map bytesP := by
      rw [List.map_take, ← Hbp.out, hxs]
      simp
    have hpx : (pre ++ [x]).map BV.b = (parts.take (pre.length + 1)).map bytesP := by
      rw [List.map_take, ← Hbp.out, hxs]
      rw [show pre ++ x :: post = (pre ++ [x]) ++ post by simp, List.map_append (l₁ := pre ++ [x]), List.take_left' (by simp)]
    have hxl : x.b.length ≤ 32768 := by
      have h1 : x.b ∈ parts.map bytesP := by rw [← Hbp.out]; exact List.mem_map_of_mem hxm
      obtain ⟨lp, h2, h3⟩ := List.mem_map.1 h1
      rw [← h3]; exact (HCut.out.fit lp h2).2
    have hnl : pre.length ≤ 8000 := by
      have h1 := congrArg List.length Hbp.out
      have h2 := cut_len HCut.out
      have h3 := congrArg List.length hxs
      simp only [List.length_map, List.length_append, List.length_cons] at h1 h3
      omega
    have hfit : ((frsL 0 (pre.map BV.b)).length : Int) + (frameB pre.length x.b).length + d.length ≤ lim := by
      have h1 := congrArg (fun l => (frsL 0 l).length) hpx
      simp only [List.map_append, List.map_cons, List.map_nil] at h1
      rw [frsL_snoc, List.length_append, frsL_len, Nat.zero_add, List.length_map] at h1
      have h2 := fr_pre parts (pre.length + 1)
      have h3 := Hfit.out parts HCut.out
      omega
    obtain ⟨n, hn⟩ : ∃ n, n = pre.length := ⟨_, rfl⟩
    obtain ⟨s, hs⟩ : ∃ s, s = (frsL 0 (pre.map BV.b)).length := ⟨_, rfl⟩
    rw [List.length_map, ← hn, ← hs] at hcb5
    rw [← hn, ← hs] at hfit
    have HMk := Lib.hid (make_any W n x.A x.b.length x.c x.b (by omega) rfl hxl hbx hAx)
    have HW5 := Lib.hid hw5
    have HTw5 := Lib.hid two5
    have HFt5 := Lib.hid hft5
    have HCB5 := Lib.hid hcb5
    have HKp5 := Lib.hid hkeep5
    have Hsz := Lib.hid hsz
    have Hn := Lib.hid hn
    have Hs := Lib.hid hs
    have Hxf := Lib.hid hfit
    have hn9 : (n : Int) ≤ 8000 := by omega
    have z4 : W.cell? ⟨B4, 0, none⟩ = some (.int .u64 (n : Nat)) := by rw [HB4.out]; exact hcb5.b4.cell
    clear hxs hw5 two5 hft5 hcb5 hkeep5 hsz hxm hbx hAx hpre hpx hxl hnl hfit hn hs h40 hit hbx4 hrd hk24 hk34 hLa hLb hLc hs4 hL0 hL1 hW4
    gi_wp2_with (refine ⟨trivial, ?_⟩; gi_at_call 42; refine (CallsIn.inRound l (callsIn_wide.2 HMk.out)).mono ?_; rintro e w6 ⟨v6, rfl, ho6, hk6⟩; obtain ⟨A6, c6, h6v, -, hb6, hA6, -⟩ := Bs.of_own ho6; subst h6v; obtain ⟨n6, hn6⟩ : ∃ n6, n6 = (frameB n x.b).length := ⟨_, rfl⟩; rw [← hn6]; have Hn6 := Lib.hid hn6; have HBs6 := Lib.hid hb6; have HA6 := Lib.hid hA6; have HK6 := Lib.hid hk6; have u0 : w6.cell? ⟨B0, 0, none⟩ = some (.pointer (some ⟨T, 0, none⟩)) := (by rw [HB0.out]; exact (HCB5.out.kept hk6 (fun k e => e.elim)).b0.cell); have u1 := ((HSB.out.kept HW5.out.kept HT.out).kept' hk6).c0; have u2 := ((HSB.out.kept HW5.out.kept HT.out).kept' hk6).c1; clear ho6 hk6 hb6 hA6 hn6 z4)
    refine wpIn_still_calls 10 (f := 44) (by kernel_rfl) (by kernel_rfl) (by kernel_rfl) (enters_of Tryz.func44 (by kernel_rfl) rfl) (fun ⟨_, _, h⟩ => h) ?_
    simp only [List.take_succ_cons, List.take_zero, List.drop_succ_cons, List.drop_zero]
    repeat still_step
    refine wpStill_nil ?_
    have HF6 := Lib.hid (HW5.out.at_.kept HK6.out.drew (by simp))
    have hB45 : ¬ B4 = B5 := by have h1 := HB4.out; have h2 := HB5.out; omega
    have hB54 : ¬ B5 = B4 := by omega
    have hs9 : (s : Int) + (n6 : Int) ≤ 4194304 := by have := Hxf.out; have := Hn6.out; have := HlimK.out; omega
    clear u0 u1 u2
    go_wp2_with (go_at_call 44; go_loud (refine (tappend w6.drew F M ps5 clk5 lim (nm ++ dotK) (nm ++ dotT) d (frsL 0 (pre.map BV.b)) made A6 n6 c6 (frameB n x.b) HF6.out HTw5.out (by rw [ByteArray.size_append, show dotT.size = 2 from rfl]; omega) hfu (HBs6.out.kept (Kept.refl (fun _ => False) w6).drew (by simp)) Hn6.out HA6.out (by have h1 := Hxf.out; have h2 := Hs.out; omega)).mono ?_; rintro e w7 ⟨rfl, ps7, clk7, hw7, two7⟩; have HW7 := Lib.hid hw7; have HTw7 := Lib.hid two7; have hcb7 := (HCB5.out.kept HK6.out.drew (fun k e => e.elim)).kept hw7.kept (fun k e => (by have := HFt5.out k e; have := HLa.out; have := HLb.out; omega)); have v4 : w7.cell? ⟨B4, 0, none⟩ = some (.int .u64 (n : Nat)) := (by rw [HB4.out]; exact hcb7.b4.cell); have v4f : w7.frozen? ⟨B4, 0, none⟩ = false := (by rw [HB4.out]; exact hcb7.b4.frozen); have v5 : w7.cell? ⟨B5, 0, none⟩ = some (.int .i64 (s : Nat)) := (by rw [HB5.out]; exact hcb7.b5.cell); have v5f : w7.frozen? ⟨B5, 0, none⟩ = false := (by rw [HB5.out]; exact hcb7.b5.frozen); clear hw7 two7 hcb7))
    gi_wp2
    have h := cp_round HLa.out (by have := HLb.out; omega) Hsz.out HW5.out HFt5.out HCB5.out HKp5.out HK6.out.drew HW7.out HTw7.out HB4.out HB5.out (by rw [Hn.out, List.length_map]) Hs.out Hn6.out
    refine ⟨⟨h.1.1, fun k hk => h.1.2 k ?_⟩, by dsimp only; rw [List.map_append]; exact h.2⟩
    have h1 := HL1.out
    have h2 := HLb.out
    rcases hk with hk | hk | hk
    · have := Hrd.out k hk; omega
    · omega
    · omega
  case done =>
    rintro W ⟨⟨ps5, clk5, hw5, two5, hft5⟩, hcb5, hkeep5⟩ hD
    obtain ⟨n, hn⟩ : ∃ n, n = (bs.map BV.b).length := ⟨_, rfl⟩
    obtain ⟨s, hs⟩ : ∃ s, s = (frsL 0 (bs.map BV.b)).length := ⟨_, rfl⟩
    rw [← hn, ← hs] at hcb5
    have HW5 := Lib.hid hw5
    have HTw5 := Lib.hid two5
    have HFt5 := Lib.hid hft5
    have HCB5 := Lib.hid hcb5
    have Hn := Lib.hid hn
    have Hs := Lib.hid hs
    have HD := Lib.hid hD
    have HT3 := Lib.hid (HSB.out.kept hw5.kept HT.out)
    have hT2 := HT2.out
    have e0 := HB0.out
    have e1 := HB1.out
    have e2 := HB2.out
    have e3 := HB3.out
    have e4 := HB4.out
    have e5 := HB5.out
    have n01 : B0 ≠ B1 := by omega
    have n02 : B0 ≠ B2 := by omega
    have n03 : B0 ≠ B3 := by omega
    have n41 : B4 ≠ B1 := by omega
    have n42 : B4 ≠ B2 := by omega
    have n43 : B4 ≠ B3 := by omega
    have n51 : B5 ≠ B1 := by omega
    have n52 : B5 ≠ B2 := by omega
    have n53 : B5 ≠ B3 := by omega
    have m1 : T ≠ B1 := by omega
    have m2 : T ≠ B2 := by omega
    have m3 : T ≠ B3 := by omega
    have HcpS : Hid (CpS B0 B4 B5 T F nm n s W) := Lib.hid ⟨by rw [e0]; exact hcb5.b0.cell, HT3.out.c0, HT3.out.c1, by rw [e4]; exact hcb5.b4.cell, by rw [e5]; exact hcb5.b5.cell⟩
    have f1 : W.frozen? ⟨B1, 0, none⟩ = false := by rw [e1]; exact hcb5.b1.frozen
    have N01 := Lib.hid n01
    have N02 := Lib.hid n02
    have N03 := Lib.hid n03
    have N41 := Lib.hid n41
    have N42 := Lib.hid n42
    have N43 := Lib.hid n43
    have N51 := Lib.hid n51
    have N52 := Lib.hid n52
    have N53 := Lib.hid n53
    have M1 := Lib.hid m1
    have M2 := Lib.hid m2
    have M3 := Lib.hid m3
    have p12 : ¬ B1 = B2 := by omega
    have p13 : ¬ B1 = B3 := by omega
    have p21 : ¬ B2 = B1 := by omega
    have p23 : ¬ B2 = B3 := by omega
    have p31 : ¬ B3 = B1 := by omega
    have p32 : ¬ B3 = B2 := by omega
    clear hw5 two5 hft5 hcb5 hkeep5 hD hn hs hT2 e0 e1 e2 e3 e4 e5 n01 n02 n03 n41 n42 n43 n51 n52 n53 m1 m2 m3 f1 h40 hit hbx4 hrd hk24 hk34 hLa hLb hLc hs4 hL0 hL1 hW4
    go_upto_region 14 with fail
    go_region_held3 (fun W => W.cell? ⟨B0, 0, none⟩ = some (.pointer (some ⟨T, 0, none⟩)) ∧ W.cell? ⟨T, 0, none⟩ = some (.pointer (some ⟨F, 0, none⟩)) ∧ W.cell? ⟨T, 1, none⟩ = some (.string nm) ∧ W.cell? ⟨B4, 0, none⟩ = some (.int .u64 (n : Nat)) ∧ W.cell? ⟨B5, 0, none⟩ = some (.int .i64 (s : Nat)))
      (first | assumption | exact HcpS.out | exact HcpS8.out | exact CpS.off (by assumption) (kF _ B1 0 _) N01.out N41.out N51.out M1.out | exact CpS.off (by assumption) (kF _ B2 0 _) N02.out N42.out N52.out M2.out | exact CpS.off (by assumption) (kF _ B3 0 _) N03.out N43.out N53.out M3.out)
      (first
        | (go_at_call 45; refine (tsync W.drew F M ps5 clk5 lim (nm ++ dotK) (nm ++ dotT) d (frsL 0 (bs.map BV.b)) made (HW5.out.at_.kept (Kept.refl (fun _ => False) W).drew (by simp)) HTw5.out).mono ?_; rintro e w8 ⟨rfl, ps8, hw8, two8⟩; have HW8 := Lib.hid hw8; have HTw8 := Lib.hid two8; have HCB8 := Lib.hid ((HCB5.out.kept (Kept.refl (fun _ => False) W).drew (fun k e => e.elim)).kept hw8.kept (fun k e => (by have := HFt5.out k e; have := HLa.out; have := HLb.out; omega))); have HT8 := Lib.hid ((HT3.out.kept' (Kept.refl (fun _ => False) W).drew).kept hw8.kept (fun hm => (by rcases HW5.out.feet T hm with h | h; exact HT.out h; have := HT2.out; omega))); have HcpS8 : Hid (CpS B0 B4 B5 T F nm n s w8) := Lib.hid ⟨(by rw [HB0.out]; exact HCB8.out.b0.cell), HT8.out.c0, HT8.out.c1, (by rw [HB4.out]; exact HCB8.out.b4.cell), (by rw [HB5.out]; exact HCB8.out.b5.cell)⟩; have f1 : w8.frozen? ⟨B1, 0, none⟩ = false := (by rw [HB1.out]; exact HCB8.out.b1.frozen); have f2 : w8.frozen? ⟨B2, 0, none⟩ = false := (by rw [HB2.out]; exact HCB8.out.b2.frozen); have f3 : w8.frozen? ⟨B3, 0, none⟩ = false := (by rw [HB3.out]; exact HCB8.out.b3.frozen); have g1 : w8.cell? ⟨B1, 0, none⟩ = some (.int .u64 0) := (by rw [HB1.out]; exact HCB8.out.b1.cell); have g2 : w8.cell? ⟨B2, 0, none⟩ = some (.int .i64 0) := (by rw [HB2.out]; exact HCB8.out.b2.cell); have g3 : w8.cell? ⟨B3, 0, none⟩ = some (.int .i64 0) := (by rw [HB3.out]; exact HCB8.out.b3.cell); clear hw8 two8))
    have k1 : Kept (fun k => k = B1 ∨ k = B2 ∨ k = B3) w8 (w8.setCell ⟨B1, 0, none⟩ (.int .u64 (n : Nat))) := (kF w8 B1 0 _).mono fun _ _ e => .inl e
    have r1 : Boxed (w8.setCell ⟨B1, 0, none⟩ (.int .u64 (n : Nat))) B1 61 (.int .u64 (n : Nat)) := by rw [HB1.out]; exact HCB8.out.b1.set _
    have q2 : Boxed (w8.setCell ⟨B1, 0, none⟩ (.int .u64 (n : Nat))) B2 3 (.int .i64 0) := (kF w8 B1 0 _).heap (by rw [HB2.out]; exact HCB8.out.b2) p21
    have q3 : Boxed (w8.setCell ⟨B1, 0, none⟩ (.int .u64 (n : Nat))) B3 26 (.int .i64 0) := (kF w8 B1 0 _).heap (by rw [HB3.out]; exact HCB8.out.b3) p31
    obtain ⟨V1, hV1⟩ : ∃ V1, V1 = w8.setCell ⟨B1, 0, none⟩ (.int .u64 (n : Nat)) := ⟨_, rfl⟩
    rw [← hV1] at k1 r1 q2 q3 ⊢
    have k2 : Kept (fun k => k = B1 ∨ k = B2 ∨ k = B3) V1 (V1.setCell ⟨B2, 0, none⟩ (.int .i64 (s : Nat))) := (kF V1 B2 0 _).mono fun _ _ e => .inr (.inl e)
    have r1' : Boxed (V1.setCell ⟨B2, 0, none⟩ (.int .i64 (s : Nat))) B1 61 (.int .u64 (n : Nat)) := (kF V1 B2 0 _).heap r1 p12
    have r2 := q2.set (.int .i64 (s : Nat))
    have q3' : Boxed (V1.setCell ⟨B2, 0, none⟩ (.int .i64 (s : Nat))) B3 26 (.int .i64 0) := (kF V1 B2 0 _).heap q3 p32
    obtain ⟨V2, hV2⟩ : ∃ V2, V2 = V1.setCell ⟨B2, 0, none⟩ (.int .i64 (s : Nat)) := ⟨_, rfl⟩
    rw [← hV2] at k2 r1' r2 q3' ⊢
    have k3 : Kept (fun k => k = B1 ∨ k = B2 ∨ k = B3) V2 (V2.setCell ⟨B3, 0, none⟩ (.int .i64 0)) := (kF V2 B3 0 _).mono fun _ _ e => .inr (.inr e)
    have r1'' : Boxed (V2.setCell ⟨B3, 0, none⟩ (.int .i64 0)) B1 61 (.int .u64 (n : Nat)) := (kF V2 B3 0 _).heap r1' p13
    have r2' : Boxed (V2.setCell ⟨B3, 0, none⟩ (.int .i64 0)) B2 3 (.int .i64 (s : Nat)) := (kF V2 B3 0 _).heap r2 p23
    have r3 := q3'.set (.int .i64 0)
    obtain ⟨V3, hV3⟩ : ∃ V3, V3 = V2.setCell ⟨B3, 0, none⟩ (.int .i64 0) := ⟨_, rfl⟩
    rw [← hV3] at k3 r1'' r2' r3 ⊢
    have hk9 : Kept (fun k => k = B1 ∨ k = B2 ∨ k = B3) w8 V3 := (k1.trans' k2).trans' k3
    have hDn : W4.heap.size ∉ foot F M ps5 := fun hm => by have := HFt5.out _ hm; have := HL1.out; have := HLa.out; have := HLb.out; omega
    have hDB : ∀ k, (k = B1 ∨ k = B2 ∨ k = B3) → w.heap.size ≤ k ∧ k < w.heap.size + 6 := fun k e => by have h1 := HB1.out; have h2 := HB2.out; have h3 := HB3.out; omega
    have hD9 : V3.heap[W4.heap.size]? = some (.deferred (some [])) := hk9.heap (HW8.out.kept.heap ((Kept.refl (fun _ => False) W).drew.heap HD.out (by simp)) hDn) (fun e => by have := hDB _ e; have := HL1.out; have := HLa.out; have := HLb.out; omega)
    have hkD : Kept (fun k => k = W4.heap.size) V3 (V3.putObj W4.heap.size (.deferred none)) := putObj_kept V3 W4.heap.size (.deferred none)
    have s1 := Boxed.cell (hkD.heap r1'' (by have h1 := hDB B1 (.inl rfl); have := HL1.out; have := HLa.out; have := HLb.out; omega))
    have s2 := Boxed.cell (hkD.heap r2' (by have h1 := hDB B2 (.inr (.inl rfl)); have := HL1.out; have := HLa.out; have := HLb.out; omega))
    have s3 := Boxed.cell (hkD.heap r3 (by have h1 := hDB B3 (.inr (.inr rfl)); have := HL1.out; have := HLa.out; have := HLb.out; omega))
    have hft8 : ∀ k ∈ foot F M ps8, k < w.heap.size ∨ (w.heap.size + 6 ≤ k ∧ k < L0) ∨ L1 ≤ k := fun k hk => by
      rcases HW8.out.feet k hk with h | h
      · have := HFt5.out k h; omega
      · have h2 := HW5.out
        have h3 : W.drew.heap.size = W.heap.size := rfl
        have h4 : W4.heap.size < W.heap.size := (Array.getElem?_eq_some_iff.1 HD.out).1
        have := HL1.out
        omega
    have hDn8 : W4.heap.size ∉ foot F M ps8 := fun hm => by
      rcases HW8.out.feet _ hm with h | h
      · exact hDn h
      · have h3 : W.drew.heap.size = W.heap.size := rfl
        have h4 : W4.heap.size < W.heap.size := (Array.getElem?_eq_some_iff.1 HD.out).1
        omega
    have S1 := Lib.hid s1
    have S2 := Lib.hid s2
    have S3 := Lib.hid s3
    have HD9 := Lib.hid hD9
    have HKD := Lib.hid hkD
    have HK9 := Lib.hid hk9
    have HDB := Lib.hid hDB
    have HFt8 := Lib.hid hft8
    have HDn8 := Lib.hid hDn8
    clear k1 r1 q2 q3 hV1 k2 r1' r2 q3' hV2 k3 r1'' r2' r3 hV3 hk9 hDn hDB hD9 hkD s1 s2 s3 hft8 hDn8 f1 f2 f3 g1 g2 g3
    go_wp2
    refine leave_mark HD9.out (v := .tuple #[.int .u64 (n : Nat), .int .i64 (s : Nat), .int .i64 0]) (show _ = Result.ok _ _ from results_cell3 rfl (fun w => by kernel_rfl) (fun w => by kernel_rfl) (fun w => by kernel_rfl) rfl rfl rfl S1.out S2.out S3.out) ⟨parts, ps8, clk5, HCut.out, ?_, ?_, ?_⟩
    · rw [Hs.out, Hbp.out, frsL_len, Hn.out, List.length_map, show bs.length = parts.length by have := congrArg List.length Hbp.out; simpa using this]
    · refine (((HW5.out.trans (Went.pre (Kept.refl (fun _ => False) W).drew HW8.out)).off HK9.out fun k e => ⟨fun hm => ?_, (HDB.out k e).1⟩)).off HKD.out fun k e => ⟨fun hm => ?_, ?_⟩
      · have h1 := HFt8.out k hm
        have h2 := HDB.out k e
        have := HLa.out
        have := HLb.out
        omega
      · subst e; exact HDn8.out hm
      · have := HL1.out; have := HLa.out; have := HLb.out; omega
    · rw [← Hbp.out]; exact HTw8.out
  case stop =>
    intro c pre W _ h
    exact h.elim
end Go.Proofs.YtcifhfdjigfeiaaGreatDoor
end
