import Derived.Test.YtnonjgopdopnfaaD
import Derived.Test.YtnonjgopdopnfaaR
set_option linter.unusedVariables false
set_option linter.unusedSimpArgs false
namespace Go.Proofs.Ytnonjgopdopnfaa
open Go.RowKit Go.Shelf
attribute [local go_sem] Oper.semAt_some

/-- A function's contract from its body, where the body holds a range over a function; the walk is the plain one. -/
theorem calls_of_marks {P : Program} {f : FuncId} {fn : Func} {c : Code} {args : Array Value} {w : World} {R : Ending → World → Prop}
    (hf : P.funcs[f]? = some fn) (hb : fn.body = some c)
    (h : c.wp P (bodyPostM Fence.wide 9 P fn R) { tmps := args ++ Array.replicate (fn.ntmps - args.size) undef, defers := [] } w) : Calls P f args w R :=
  callsIn_wide.1 (callsIn_of_wp_marks (F := Fence.wide) (n := 9) hf hb trivial (wpIn_wide.2 h) rfl)

theorem ownFrom_block {β : Type} {B k : Nat} {o : Obj} (hk : k < B) : OwnFrom B (fun (_ : β) W => W.heap[k]? = some o) :=
  fun _ W W' row hs hg hr => (hg.block k (Array.getElem?_eq_some_iff.1 hs).1 (fun e => by have := (hr k e.symm).1; omega)).trans hs
theorem ownFrom_boxed {β : Type} {B k : Nat} {t : TypeId} {f : β → Value} (hk : k < B) : OwnFrom B (fun (x : β) W => Boxed W k t (f x)) :=
  fun x W W' row hs hg hr => (hg.block k (Array.getElem?_eq_some_iff.1 hs).1 (fun e => by have := (hr k e.symm).1; omega)).trans hs
theorem ownFrom_false {β : Type} {B : Nat} : OwnFrom B (fun (_ : β) _ => False) := fun _ _ _ _ hs _ _ => hs

theorem ix27 (B0 q : Nat) (hq : q < 256) (w : World) : (Instr.indexAt 27 (.pointer (some ⟨B0, 0, none⟩)) (.int .u8 (q : Int))).run Try.prog w = .ok (.pointer (some ⟨B0, q, none⟩)) w := by
  have h1 : Try.prog.arrayLen 27 = 256 := by kernel_rfl
  have h2 : (sizeOf (Try.prog.elem 27)).run Try.prog w = .ok 1 w := by kernel_rfl
  rw [run_indexAt_array (t := 27) (h := Try.underlying27), h1, h2, if_pos (by omega)]
  simp [Result.andThen, Addr.add]
  omega
theorem bits_xor_u8_nat (a b : Nat) (ha : a < 256) (hb : b < 256) : bits .xor .u8 (a : Int) (b : Int) = ((a ^^^ b : Nat) : Int) := by
  have hx : a ^^^ b < 2 ^ 8 := Nat.xor_lt_two_pow (by omega) (by omega)
  have h1 : (BitVec.ofInt 8 (a : Int)).toNat = a := by
    rw [BitVec.ofInt_natCast, BitVec.toNat_ofNat]; exact Nat.mod_eq_of_lt (by omega)
  have h2 : (BitVec.ofInt 8 (b : Int)).toNat = b := by
    rw [BitVec.ofInt_natCast, BitVec.toNat_ofNat]; exact Nat.mod_eq_of_lt (by omega)
  show IntKind.u8.wrap ((BitVec.ofInt 8 (a : Int) ^^^ BitVec.ofInt 8 (b : Int)).toNat : Int) = _
  rw [BitVec.toNat_xor, h1, h2, IntKind.wrap_u8]
  omega

set_option maxRecDepth 100000 in
set_option maxHeartbeats 2000000 in
theorem print_any (w : World) (A : Option Addr) (cap : Nat) (xs : List UInt8) (hl : xs.length ≤ 20000) (hb : Bs w A xs) :
    Calls Try.prog 7 #[.slice A xs.length cap] w fun e W' => e = .returned (.int .u64 (prn E0 xs : Nat)) ∧ Below w.heap.size w W' := by
  obtain ⟨len, hlen⟩ : ∃ len, len = xs.length := ⟨_, rfl⟩
  rw [← hlen] at hl ⊢
  have Hlen := Lib.hid hlen
  clear hlen
  obtain ⟨cs, hcs⟩ : ∃ cs : Array Value, cs = Array.replicate 256 (.int .u64 0) := ⟨_, rfl⟩
  have hz := zero27
  rw [← hcs] at hz
  have Hz := Lib.hid hz
  have Hcs := Lib.hid hcs
  clear hz hcs
  obtain ⟨tv, htv⟩ : ∃ tv, tv = tabV tab := ⟨_, rfl⟩
  have HT := Lib.hid table_any
  rw [← htv] at HT
  have Htv := Lib.hid htv
  clear htv
  refine calls_of_marks Try.func7 rfl ?_
  simp only [Try.ntmps7, List.size_toArray, List.length_cons, List.length_nil, Nat.reduceAdd, Nat.reduceSub, Array.replicate_succ, Array.replicate_zero, List.push_toArray, List.append_toArray, List.nil_append, List.cons_append]
  go_wp2_with (first | (go_at_call 9; refine (HT.out _).mono ?_; rintro e w1 ⟨rfl, hB1⟩; have HB1 := Lib.hid hB1; clear hB1) | (refine wpL_alloc _ rfl 27 rfl (.agg cs) Hz.out ?_) | (refine wpList_store_row rfl 27 _ _ rfl w1.heap.size tv rfl rfl 27 cs (heap_alloc_new w1 _) (by rw [info27, Htv.out, tabV_size]) (by rw [Hcs.out, Htv.out, tabV_size]; simp) (by rw [Htv.out]; exact tabV_one _) ?_) | (go_at_call 13; refine (callsIn_wide.1 (values_in Fence.wide 9 trivial rfl _ _ _ _)).mono ?_; rintro e w' ⟨rfl, rfl⟩))
  obtain ⟨W0, hW0⟩ : ∃ W0, W0 = ((((w1.alloc (.cells cs 27)).setRow w1.heap.size tv).alloc (.cells #[.int .u64 13933329357911598997] 25)).alloc (.cells #[.slice A len cap] 22)) := ⟨_, rfl⟩
  rw [← hW0]
  obtain ⟨B0, hB0⟩ : ∃ B0, B0 = w1.heap.size := ⟨_, rfl⟩
  have hsz : W0.heap.size = B0 + 3 := by rw [hW0, hB0]; simp
  have hBW : Below w.heap.size w W0 := by
    rw [hW0]
    exact ((below_setRow (HB1.out.alloc HB1.out.size _) HB1.out.size _).alloc (by simp; have := HB1.out.size; omega) _).alloc (by simp; have := HB1.out.size; omega) _
  have hT0 : W0.heap[B0]? = some (.cells tv 27 (0, 0)) := by
    rw [hW0, hB0, heap_alloc_old _ _ (by simp; omega), heap_alloc_old _ _ (by simp)]
    exact setRow_heap _ _ _ _ _ _ (heap_alloc_new w1 _)
  have hV0 : Boxed W0 (B0 + 1) 25 (.int .u64 13933329357911598997) := by
    have := (Boxed.new ((w1.alloc (.cells cs 27)).setRow w1.heap.size tv) 25 (.int .u64 13933329357911598997)).alloc (.cells #[.slice A len cap] 22)
    rw [hW0, hB0]; simpa using this
  have hS0 : W0.cell? ⟨B0 + 2, 0, none⟩ = some (.slice A len cap) := by
    have := (Boxed.new (((w1.alloc (.cells cs 27)).setRow w1.heap.size tv).alloc (.cells #[.int .u64 13933329357911598997] 25)) 22 (.slice A len cap)).cell
    rw [hW0, hB0]; simpa using this
  have hsle : w.heap.size ≤ B0 := by rw [hB0]; exact HB1.out.size
  clear hW0
  rw [← hB0]
  clear hB0
  rw [Hlen.out] at hS0
  have hI : xs = [] ∨ ∃ b o, A = some ⟨b, o, none⟩ ∧ b < w.heap.size ∧ ∀ j (h : j < xs.length), W0.cell? ⟨b, o + j, none⟩ = some (bv xs[j]) := by
    rcases hb with h | ⟨b, o, h, hc⟩
    · exact .inl h
    · by_cases hx : xs = []
      · exact .inl hx
      · have hp : 0 < xs.length := List.length_pos_iff.2 hx
        exact .inr ⟨b, o, h, World.block_lt_of_cell? w _ (hc 0 hp), fun j hj => (hBW.cell (p := ⟨b, o + j, none⟩) (World.block_lt_of_cell? w _ (hc j hj))).trans (hc j hj)⟩
  refine wpIn_wide.1 (wpIn_rangeFunc_ownG (F := Fence.wide) (n := 9) rfl (by omega) (gf := 15) (lb := #[.pointer (some ⟨B0 + 2, 0, none⟩)]) rfl trivial (enters_of Try.func15 (by kernel_rfl) rfl)
    (values_stops Fence.wide 8 trivial rfl (by omega) (B0 + 2) w.heap.size A cap xs (by have := Hlen.out; omega) W0 (by omega) (by omega) hS0 hI) belowK_t (belowK_b (by omega)) (Below.refl _ _) (fun _ => rfl)
    (fun pre W => (W.heap[B0]? = some (.cells tv 27 (0, 0)) ∧ Boxed W (B0 + 1) 25 (.int .u64 (prn E0 pre : Nat))) ∧ Below w.heap.size w W)
    (fun _ _ _ => False)
    (OwnFrom.and (OwnFrom.and (ownFrom_block (by omega)) (ownFrom_boxed (f := fun pre => .int .u64 (prn E0 pre : Nat)) (by omega))) (ownFrom_below (Nat.le_refl _) (by omega)))
    (fun _ => ownFrom_false)
    ⟨⟨hT0, hV0⟩, hBW⟩
    (fun x => { tmps := #[.slice A len cap, undef, .int .u64 0, .pointer (some ⟨B0, 0, none⟩), .pointer (some ⟨B0 + 1, 0, none⟩), .int .u8 (x.toNat : Int), .agg tv, .slice A len cap, .func (.func 15) #[] #[.pointer (some ⟨B0 + 2, 0, none⟩)], .int .u8 (x.toNat : Int), undef, undef, undef, undef, undef, undef, undef, undef, undef, undef], defers := [] }) ?assign ?body ?done ?stop)
  case assign =>
    intro l x W K hK
    gi_wp2
    exact hK
  case body =>
    rintro l pre x W ⟨⟨hT, hV⟩, hB⟩ _
    have hpl : prn E0 pre < 18446744073709551616 := prn_lt _ _ E0_lt
    obtain ⟨p, hp⟩ : ∃ p, p = prn E0 pre := ⟨_, rfl⟩
    rw [← hp] at hV hpl
    have hc := hV.cell
    have hf := hV.frozen
    have Hp := Lib.hid hp
    have HV := Lib.hid hV
    have HB := Lib.hid hB
    have HT' := Lib.hid hT
    have hxl : x.toNat < 256 := x.toNat_lt
    have hwr : IntKind.u8.wrap (p : Int) = ((p % 256 : Nat) : Int) := by rw [IntKind.wrap_u8]; omega
    obtain ⟨q, hq⟩ : ∃ q, q = p % 256 ^^^ x.toNat := ⟨_, rfl⟩
    have hq8 : q < 256 := by rw [hq]; exact Nat.xor_lt_two_pow (n := 8) (by omega) hxl
    have hxr : bits .xor .u8 ((p : Int) % 256) (x.toNat : Int) = (q : Int) := by rw [hq, show (p : Int) % 256 = ((p % 256 : Nat) : Int) by omega]; exact bits_xor_u8_nat _ _ (by omega) hxl
    have hct : W.cell? ⟨B0, q, none⟩ = some (.int .u64 (tab q : Nat)) := by simp [World.cell?, hT, Htv.out, tabV, hq8, u64]
    have Hq := Lib.hid hq
    have hq9 : (q : Int) < 256 := by omega
    have hct : W.cell? ⟨B0, q, none⟩ = some (.int .u64 (tab q : Nat)) := by simp [World.cell?, hT, Htv.out, tabV, hq8, u64]
    have Hq := Lib.hid hq
    have Hpl := Lib.hid hpl
    have hpm : p / 256 < 18446744073709551616 := by omega
    have hxx : bits .xor .u64 ((p : Int) / 256) (tab q : Nat) = ((prn E0 (pre ++ [x]) : Nat) : Int) := by
      rw [prn_snoc_tab, ← hp, ← hq]
      exact bits_xor_u64_nat (p / 256) (tab q) hpm (stp_lt 8 (by omega))
    have Hxx := Lib.hid hxx
    clear hp hV hB hT hq hpl hpm hxx
    gi_wp2
    refine wpIn_still_tail 9 (by kernel_rfl) (by kernel_rfl) (by kernel_rfl) (fun ⟨_, _, h⟩ => h) ?_
    simp only [List.take_succ_cons, List.take_zero, List.drop_succ_cons, List.drop_zero]
    repeat still_step
    refine wpStill_nil ?_
    go_wp2
    rw [Hxx.out]
    refine ⟨((KeepsOthers.setCell _ _ _).trans (KeepsOthers.drew _)).from _, ((Below.refl _ _).setCell (p := ⟨B0 + 1, 0, none⟩) (by simp; omega) _).drew, ⟨?_, HV.out.set _⟩, (HB.out.setCell (p := ⟨B0 + 1, 0, none⟩) (by simp; omega) _).drew⟩
    exact (Below.heap_setCell _ _ _ _ (by simp)).trans HT'.out
  case done =>
    rintro D ys W hD rfl ⟨⟨hT, hV⟩, hB⟩ hK
    have hc := hV.cell
    have HB := Lib.hid hB
    have HK := Lib.hid hK
    clear hV hB hT hK
    go_wp2
    refine ⟨by simp, .inl ⟨_, _, rfl, run_takeDeferred HK.out, ?_⟩⟩
    exact ⟨_, results_tmp rfl _ _ _, rfl, HB.out.trans (belowK_b (w := w) (Nat.le_refl _) W D _ _ (by omega) HK.out rfl rfl)⟩
  case stop =>
    rintro D c pre W _ _ h _
    exact h.elim
end Go.Proofs.Ytnonjgopdopnfaa
