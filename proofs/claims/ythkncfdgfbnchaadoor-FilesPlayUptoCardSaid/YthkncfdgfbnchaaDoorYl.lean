import Derived.Test.YthkncfdgfbnchaaDoorCards
import Derived.Test.YthkncfdgfbnchaaDoorTie
import Derived.Test.YthkncfdgfbnchaaDoorYk
import Derived.WalkKit
import Derived.ProofKit
import Derived.OpenShut
import Derived.Below
import Derived.ChangeMaps5
import Derived.ShutString
import Derived.Deep.Slices
import Derived.Deep.DeepHandedRow
import Derived.Deep.DeepLaidRun
/-! FilesPlay: the statement in its second form (what comes in is of bulk at most 1048576: a name of 2^63-1 bytes makes the first form false). -/
section
set_option linter.unusedVariables false
set_option linter.unusedSimpArgs false
namespace Go.Proofs.YthkncfdgfbnchaaDoor.filesPlay
open Go.ChangeShapes Go.WideShapes Go.ChangeAt Go.RowKit Go.Deep
open Go.ChangeMaps (open_string shut_string)

theorem own : ownKnob Tryd.prog.godebug = none := by kernel_rfl
theorem laidOut : laidOutB Tryd.prog = true := by kernel_rfl
theorem cells_op : Tryd.prog.cellsOf 47 = 6 := by kernel_rfl
theorem cells_int : Tryd.prog.cellsOf 3 = 1 := by kernel_rfl
theorem cells_u8 : Tryd.prog.cellsOf 5 = 1 := by kernel_rfl
theorem cells_string : Tryd.prog.cellsOf 9 = 1 := by kernel_rfl
theorem cells_bytes : Tryd.prog.cellsOf 29 = 1 := by kernel_rfl
theorem cells_ints : Tryd.prog.cellsOf 22 = 1 := by kernel_rfl

theorem part_le {H : Type} {d : DataW H} {l : List (DataW H)} (h : d ∈ l) : Rows.uptoBulk d ≤ Rows.uptoBulkAll l := by
  induction l with
  | nil => cases h
  | cons x r ih =>
    simp only [Rows.uptoBulkAll]
    cases List.mem_cons.1 h with
    | inl e => subst e; omega
    | inr e => have := ih e; omega

theorem len_toList (s : ByteArray) : s.data.toList.length = s.size := by rw [Array.length_toList]; rfl

theorem row_of {H : Type} {enc : TypeId × Value → H} {W : World} {t e : TypeId} {k : IntKind} {fuel : Nat} {c : Value} {x : DataW H × List MemPlace} (ht : Tryd.prog.underlying t = some (.slice e)) (he : Tryd.prog.underlying e = some (.int k)) (hc : Tryd.prog.cellsOf e = 1)
    (h : DataW.trod enc Tryd.prog W 0 (fun _ => true) true fuel t [c] = some x) : ∃ A l cp zs, c = .slice A l cp ∧ IsRow k W A l cp zs := by
  rcases open_ints ht he hc h with ⟨hcs, _⟩ | ⟨x, l, c', zs, hcs, _, hl, hm, hz, _, hcell, hwz⟩
  · exact ⟨none, 0, 0, [], by simpa using hcs, .inl ⟨rfl, rfl, rfl, rfl⟩⟩
  · exact ⟨some x, l, c', zs, by simpa using hcs, .inr ⟨x, rfl, hl, hm, by simpa using hz, hcell, hwz⟩⟩

theorem row_bytes {w : World} {a : Option Addr} {len cap : Nat} {zs : List Int} (h : IsRow .u8 w a len cap zs) : ∃ xs : List UInt8, len = xs.length ∧ Bs w a xs ∧ (a = none → cap = 0) ∧ ∀ ad, a = some ad → xs = [] ∨ ad.block < w.heap.size := by
  rcases h with ⟨rfl, rfl, rfl, rfl⟩ | ⟨x, rfl, hl, hm, hz, hc, hw⟩
  · exact ⟨[], rfl, Bs.nil _ _, fun _ => rfl, fun ad e => (by cases e)⟩
  · refine ⟨(zs.take len).map fun z => UInt8.ofNat z.toNat, by simp; omega, ⟨fun e => (by cases e), fun ad e j u hu => ?_⟩, fun e => (by cases e), fun ad e => ?_⟩
    · cases e
      have hj : j < len := by have := (List.getElem?_eq_some_iff.1 hu).1; simp at this; omega
      have hjz : j < zs.length := by omega
      rw [hc j hjz]
      have hg : zs.getD j 0 = zs[j] := by simp [List.getD, hjz]
      have hz' := hw zs[j] (List.getElem_mem hjz)
      have hz2 : 0 ≤ zs[j] ∧ zs[j] < 256 := by
        simp [Lit.wf, IntKind.min, IntKind.max, IntKind.signed, IntKind.bits] at hz'
        omega
      have hu2 : u = .int .u8 ((UInt8.ofNat zs[j].toNat).toNat : Int) := by
        simp [List.getElem?_take, hj, hjz, bv] at hu
        simp [← hu]
      rw [hg, hu2]
      simp
      omega
    · cases e
      rcases Nat.eq_zero_or_pos len with h0 | h0
      · exact .inl (by subst h0; simp)
      · exact .inr (by have := World.block_lt_of_cell? w _ (hc 0 (by omega)); rwa [add_block] at this)

theorem six {α : Type} : ∀ l : List α, l.length = 6 → ∃ a b c d e f, l = [a, b, c, d, e, f]
  | [a, b, c, d, e, f], _ => ⟨a, b, c, d, e, f, rfl⟩

set_option maxRecDepth 100000 in
theorem op_of {H : Type} {enc : TypeId × Value → H} {W : World} {fuel : Nat} {cs : List Value} {x : DataW H × List MemPlace} {ad : Addr} (hc : W.cells? 0 ad 6 = some cs)
    (h : DataW.trod enc Tryd.prog W 0 (fun _ => true) true fuel 47 cs = some x) (hx : Rows.uptoBulk x.1 ≤ 1048576) :
    ∃ k nm to_ Ab lb cb N Ak lk ck, OpC W ad k nm to_ Ab lb cb N Ak lk ck ∧ OpOk W nm to_ Ab lb cb N Ak lk ck := by
  obtain ⟨_, hlen, hcell⟩ := World.cells?_some hc
  obtain ⟨xs, n, rfl, rfl, _, hxl, hf⟩ := DataW.trod_struct Tryd.underlying47 h
  obtain ⟨c0, c1, c2, c3, c4, c5, rfl⟩ := six cs hlen
  obtain ⟨x0, x1, x2, x3, x4, x5, rfl⟩ := six xs hxl
  have f0 := hf 0 { name := "Kind", type := 3, offset := 0, embedded := false, tag := "", pkgPath := "", byteOffset := 0 } rfl
  have f1 := hf 1 { name := "Name", type := 9, offset := 1, embedded := false, tag := "", pkgPath := "", byteOffset := 8 } rfl
  have f2 := hf 2 { name := "To", type := 9, offset := 2, embedded := false, tag := "", pkgPath := "", byteOffset := 24 } rfl
  have f3 := hf 3 { name := "B", type := 29, offset := 3, embedded := false, tag := "", pkgPath := "", byteOffset := 40 } rfl
  have f4 := hf 4 { name := "N", type := 3, offset := 4, embedded := false, tag := "", pkgPath := "", byteOffset := 64 } rfl
  have f5 := hf 5 { name := "Keep", type := 22, offset := 5, embedded := false, tag := "", pkgPath := "", byteOffset := 72 } rfl
  simp only [cells_int, cells_string, cells_bytes, cells_ints, List.drop_succ_cons, List.drop_zero, List.take_succ_cons, List.take_zero, List.getElem?_cons_zero, List.getElem?_cons_succ] at f0 f1 f2 f3 f4 f5
  obtain ⟨k, e0, _, _⟩ := DataW.trod_int Tryd.underlying3 f0
  obtain ⟨nm, e1, g1, _⟩ := DataW.trod_string Tryd.underlying9 f1
  obtain ⟨to_, e2, g2, _⟩ := DataW.trod_string Tryd.underlying9 f2
  obtain ⟨Ab, lb, cb, zb, rfl, rb⟩ := row_of Tryd.underlying29 Tryd.underlying5 cells_u8 f3
  obtain ⟨N, e4, _, wn⟩ := DataW.trod_int Tryd.underlying3 f4
  obtain ⟨Ak, lk, ck, zk, rfl, rk⟩ := row_of Tryd.underlying22 Tryd.underlying3 cells_int f5
  simp only [List.cons.injEq, and_true] at e0 e1 e2 e4
  subst e0; subst e1; subst e2; subst e4; subst g1; subst g2
  simp only [List.map_cons, List.map_nil, Rows.uptoBulk, Rows.uptoBulkAll, len_toList] at hx
  refine ⟨k, nm, to_, Ab, lb, cb, N, Ak, lk, ck, ⟨?_, ?_, ?_, ?_, ?_, ?_⟩, ⟨by omega, by omega, ?_, row_bytes rb, ?_⟩⟩
  · simpa [Addr.add] using hcell 0 (by decide)
  · simpa [Addr.add] using hcell 1 (by decide)
  · simpa [Addr.add] using hcell 2 (by decide)
  · simpa [Addr.add] using hcell 3 (by decide)
  · simpa [Addr.add] using hcell 4 (by decide)
  · simpa [Addr.add] using hcell 5 (by decide)
  · simp [Lit.wf, IntKind.min, IntKind.max, IntKind.signed, IntKind.bits] at wn
    omega
  · rcases rk with ⟨rfl, rfl, rfl, rfl⟩ | ⟨y, rfl, hl, hm, hz, hcl, hw⟩
    · exact ⟨[], fun j hj => absurd hj (Nat.not_lt_zero _)⟩
    · exact ⟨zk, fun j hj => ⟨y, rfl, hcl j (by omega)⟩⟩

theorem ops_of {H : Type} {enc : TypeId × Value → H} {W : World} {fuel : Nat} {A : Option Addr} {l c : Nat} {x : DataW H × List MemPlace}
    (h : DataW.trod enc Tryd.prog W 0 (fun _ => true) true fuel 43 [.slice A l c] = some x) (hx : Rows.uptoBulk x.1 ≤ 1048576) : OpsAt W A l := by
  rcases open_slice Tryd.underlying43 h with ⟨hcs, _⟩ | ⟨a, len, cap, m, n, D, Pl, hcs, _, hl, hm, hmm, hxx, hel⟩
  · simp at hcs
    obtain ⟨rfl, rfl, rfl⟩ := hcs
    intro j hj
    exact absurd hj (Nat.not_lt_zero _)
  · simp at hcs
    obtain ⟨rfl, rfl, rfl⟩ := hcs
    subst hxx
    intro j hj
    simp at hmm
    obtain ⟨cs', h1, h2⟩ := hel j (by omega)
    rw [cells_op] at h1
    have hb : Rows.uptoBulk (D j) ≤ 1048576 := by
      have h3 : Rows.uptoBulk (D j) ≤ Rows.uptoBulkAll ((List.range l).map D) := part_le (List.mem_map_of_mem (List.mem_range.2 hj))
      simp only [Rows.uptoBulk] at hx
      omega
    obtain ⟨k, nm, to_, Ab, lb, cb, N, Ak, lk, ck, h4, h5⟩ := op_of h1 h2 hb
    exact ⟨a, k, nm, to_, Ab, lb, cb, N, Ak, lk, ck, rfl, h4, h5⟩

set_option maxRecDepth 100000 in
theorem contract (H : Type) (enc : TypeId × Value → H) (W : World) (base : Nat) (args : Array Value) (ds gs : List (DataW H)) (before : List MemPlace)
    (hval0 : ∀ (j : Nat) t v, Tryd.f6.params[j]? = some t → args[j]? = some v → Value.okWide Tryd.prog W .any base t v)
    (hW : DataW.Whole enc Tryd.prog Tryd.f6.params.toList Rows.filesPlaySpec.vars false W args.toList ds gs before) (hk : Rows.uptoSmall H (ds ++ gs) = true) :
    Calls Tryd.prog 6 args W fun e W' => ∃ v, e = .returned v ∧ Rows.filesPlaySpec.post enc Tryd.prog Tryd.f6 false true false false W args v W' := by
  have hval := hval0
  have hW' := hW
  obtain ⟨p, q, hA0, hV, rfl, hfz, hnd⟩ := hW
  have hA : DataW.TrodAll enc Tryd.prog W 0 (fun _ => true) true Tryd.f6.params.toList args.toList ds p := hA0
  rw [Tryd.params6] at hA hval
  obtain ⟨v0, vs0, d0, ds0, p0, q0, hargs, rfl, rfl, h0, r0⟩ := trodAll_cons hA
  obtain ⟨v1, vs1, d1, ds1, p1, q1, hargs1, rfl, rfl, h1, r1⟩ := trodAll_cons r0
  obtain ⟨rfl, rfl, rfl⟩ := trodAll_nil r1
  subst hargs1
  obtain rfl : args = #[v0, v1] := by cases args; simp_all
  obtain ⟨rfl, rfl⟩ := trodVars_none hV
  obtain ⟨n0, rfl, rfl, rfl, wf0⟩ := open_int Tryd.underlying3 (hval 0 3 v0 rfl rfl) h0
  obtain ⟨a1, len1, cap1, rfl⟩ := okWide_slice Tryd.underlying43 (hval 1 43 v1 rfl rfl)
  have k1 := h1
  have lt1 : ∀ x ∈ p1, x.block < W.heap.size := by obtain ⟨m, hm⟩ := k1; exact DataW.trod_lt m _ _ _ hm
  have hb : Rows.uptoBulk d1 ≤ 1048576 := by
    have h : Rows.uptoBulkAll ([.lit (.int .i64 n0), d1] ++ []) ≤ 1048576 := of_decide_eq_true hk
    simp only [List.append_nil, Rows.uptoBulkAll] at h
    omega
  have ho : OpsAt W a1 len1 := by
    obtain ⟨fuel, hf⟩ := h1
    exact ops_of (by simpa [Value.cells] using hf) hb
  clear hA0 hval0
  refine (play_any n0 a1 len1 cap1 W ho).mono fun e W' ⟨he, hkp⟩ => ?_
  have bel := hkp.below (Nat.le_refl _) (fun _ h => h.elim)
  subst he
  exact ⟨_, rfl, _, _, _, _, _, [], hW', trodAll_mk1 (shut_bool Tryd.underlying4 _), (trodAll_cons_mk (shut_int Tryd.underlying3 wf0) (trodAll_cons_mk (Below.trod laidOut (by kernel_rfl) (of_decide_eq_true (by kernel_rfl)) k1 bel lt1) trodAll_mk0)), rfl, bel.frame _, fun h => by cases h⟩

def lay0 : Obj → Obj
  | .cells _ t frozen => .cells (Go.Pinned.utf8FirstZ.map (fun (n : Nat) => Value.int .u8 (n : Int))).toArray t frozen
  | o => o
def lay1 : Obj → Obj
  | .cells _ t frozen => .cells (([128, 191, 160, 191, 128, 159, 144, 191, 128, 143, 0, 0, 0, 0, 0, 0, 0, 0, 0, 0, 0, 0, 0, 0, 0, 0, 0, 0, 0, 0, 0, 0] : List Nat).map (fun (n : Nat) => Value.int .u8 (n : Int))).toArray t frozen
  | o => o
noncomputable def laidWorld (os : Os) : World :=
  { World.holding Tryd.prog os ⟨#[], #[], []⟩ with heap := ((World.holding Tryd.prog os ⟨#[], #[], []⟩).heap.modify 0 lay0).modify 1 lay1 }
theorem laid_met (os : Os) : laidMet Tryd.prog Rows.filesPlayUptoRow.laid ((laidWorld os).forCall (fun _ _ => 0) ⟨#[], #[.int .i64 0, .slice none 0 0], []⟩).memory :=
  laidMet_of_run3 8 (by kernel_rfl) (by kernel_rfl) (by kernel_rfl)
theorem reads (os : Os) {H : Type} (enc : TypeId × Value → H) : ∃ places, DataW.whole enc Tryd.prog ((laidWorld os).forCall (fun _ _ => 0) ⟨#[], #[.int .i64 0, .slice none 0 0], []⟩).memory Tryd.f6.params.toList Rows.filesPlaySpec.vars false #[Value.int .i64 0, .slice none 0 0].toList 8 = some ([.lit (.int .i64 0), .nil], [], places) :=
  ⟨[], by kernel_rfl⟩

set_option maxRecDepth 100000 in
theorem liftedUpto (os : Os) (started : os.Started) (H : Type) (enc : TypeId × Value → H) (F : Stop.Interp) :
    ReturnsInHanded {} Tryd.checked os 6 .any ((Rows.OpenSpec.upto Rows.filesPlaySpec).preRow enc Tryd.prog Tryd.f6 Rows.filesPlayUptoRow.domain false Rows.filesPlayUptoRow.laid) (((Rows.OpenSpec.upto Rows.filesPlaySpec).at F).post enc Tryd.prog Tryd.f6 false true false false) := by
  obtain ⟨places, hx⟩ := reads os enc
  refine returnsInHanded_of_row (C := Tryd.checked) (s := Rows.OpenSpec.upto Rows.filesPlaySpec) own started (by kernel_rfl) Tryd.func6
    (witness_row_at (enc := enc) (C := Tryd.checked) false (laidWorld os) #[.int .i64 0, .slice none 0 0] rfl (by kernel_rfl) (by kernel_rfl) (by kernel_rfl)
      (OpenSpec.preRow_of_cond 8 hx (by kernel_rfl) (fun k hk => by cases hk; kernel_rfl) (by kernel_rfl) (laid_met os))) ?_
  intro W base args ds gs before hval hW _ hcond _ hL _ _
  exact contract H enc W base args ds gs before hval hW (hcond _ rfl)

theorem saidUpto : Rows.FilesPlayUptoSaid :=
  OpenClaim.holds_of_cond 6 Tryd.f6 rfl rfl rfl rfl rfl rfl rfl ⟨rfl, rfl, rfl, rfl, rfl⟩ rfl rfl rfl rfl rfl (by kernel_rfl) Tryd.func6 (by kernel_rfl)
    (of_decide_eq_true (by kernel_rfl)) (by unfold Func.isWrapper; first | (rw [if_pos (by decide +kernel)]; kernel_rfl) | (rw [if_neg (by decide +kernel)]; exact ⟨rfl, rfl⟩))
    (fun os started H enc _ F => by rw [OpenClaim.pre_eq_preRow]; exact liftedUpto os started H enc F)

theorem plain (f : FuncId) (fn : Func) (hf : Tryd.pinned.checked.prog.funcNamed "courant/courantlaw16.FilesPlay" = some f) (hfn : Tryd.pinned.checked.prog.funcs[f]? = some fn) :
    false = Tryd.pinned.checked.prog.looks [] ∧ ∀ (j : Nat) t, fn.params[j]? = some t → Tryd.pinned.checked.prog.wantsStandIn t = false := by
  obtain rfl : f = 6 := Option.some.inj ((show Tryd.prog.funcNamed "courant/courantlaw16.FilesPlay" = some 6 by kernel_rfl).symm.trans hf) |>.symm
  obtain rfl : fn = Tryd.f6 := (Option.some.inj (Tryd.func6.symm.trans hfn)).symm
  refine ⟨by kernel_rfl, fun j t ht => ?_⟩
  rw [Tryd.params6] at ht
  have hm := Array.mem_of_getElem? ht
  simp only [List.mem_toArray, List.mem_cons, List.not_mem_nil, or_false] at hm
  rcases hm with rfl | rfl
  · exact (show Tryd.prog.wantsStandIn 3 = false by kernel_rfl)
  · exact (show Tryd.prog.wantsStandIn 43 = false by kernel_rfl)

/-- ████ THE STATEMENT, SECOND FORM ████ -/
theorem proved : Rows.FilesPlayUptoCardSaid :=
  Claim7.holds_tied_plain_at .later [] _ _ _ _ saidUpto (fun _ h => by cases h) (by kernel_rfl) (fun _ h => by cases h) filesPlayUpto_row_tie rfl ⟨rfl, rfl⟩ (by kernel_rfl) rfl plain (by kernel_rfl)
#print axioms proved
end Go.Proofs.YthkncfdgfbnchaaDoor.filesPlay
end
