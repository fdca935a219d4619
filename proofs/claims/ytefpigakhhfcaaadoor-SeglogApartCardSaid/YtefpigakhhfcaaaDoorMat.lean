import Derived.Test.YtefpigakhhfcaaaDoorMas
import Derived.Laws.CopyOwn
import Derived.Laws.Bits64
import Derived.WalkSpells
import Derived.WalkLawsBesides
/-! crc: the table (lines of wip/finger, turned). -/
section
set_option linter.unusedVariables false
set_option linter.unusedSimpArgs false
namespace Go.Proofs.YtefpigakhhfcaaaDoor
open Go.RowKit

/-- e. -/
def cE0 : Nat := 2197175160
/-- One bit. -/
def cstepB (v : Nat) : Nat := if v % 2 = 1 then (v / 2) ^^^ cE0 else v / 2
def cstp : Nat → Nat → Nat
  | 0, v => v
  | k + 1, v => cstepB (cstp k v)
theorem cE0_lt : cE0 < 4294967296 := by decide
theorem cxor_lt {a b : Nat} (ha : a < 4294967296) (hb : b < 4294967296) : a ^^^ b < 4294967296 := by
  have : a ^^^ b < 2 ^ 32 := Nat.xor_lt_two_pow (by omega) (by omega)
  omega
theorem cstepB_lt {v : Nat} (h : v < 4294967296) : cstepB v < 4294967296 := by
  unfold cstepB
  split
  · exact cxor_lt (by omega) cE0_lt
  · omega
theorem cstp_lt (k : Nat) {v : Nat} (h : v < 4294967296) : cstp k v < 4294967296 := by
  induction k with
  | zero => exact h
  | succ k ih => exact cstepB_lt ih
/-- The remainder of each byte. -/
def ctab (j : Nat) : Nat := cstp 8 j
theorem bits_xor_u32_nat (a b : Nat) (ha : a < 4294967296) (hb : b < 4294967296) : bits .xor .u32 (a : Int) (b : Int) = ((a ^^^ b : Nat) : Int) := by
  have hx : a ^^^ b < 2 ^ 32 := Nat.xor_lt_two_pow (by omega) (by omega)
  have h1 : (BitVec.ofInt 32 (a : Int)).toNat = a := by
    rw [BitVec.ofInt_natCast, BitVec.toNat_ofNat]; exact Nat.mod_eq_of_lt (by omega)
  have h2 : (BitVec.ofInt 32 (b : Int)).toNat = b := by
    rw [BitVec.ofInt_natCast, BitVec.toNat_ofNat]; exact Nat.mod_eq_of_lt (by omega)
  show IntKind.u32.wrap ((BitVec.ofInt 32 (a : Int) ^^^ BitVec.ofInt 32 (b : Int)).toNat : Int) = _
  rw [BitVec.toNat_xor, h1, h2, IntKind.wrap_u32]
  omega
def cw (v : Nat) : Value := .int .u32 (v : Int)
theorem cand_one (v : Nat) (h : v < 4294967296) : bits .and .u32 (v : Int) 1 = ((v % 2 : Nat) : Int) := by
  have h1 : (BitVec.ofInt 32 (v : Int)).toNat = v := by
    rw [BitVec.ofInt_natCast, BitVec.toNat_ofNat]; exact Nat.mod_eq_of_lt (by omega)
  show IntKind.u32.wrap ((BitVec.ofInt 32 (v : Int) &&& BitVec.ofInt 32 (1 : Int)).toNat : Int) = _
  rw [BitVec.toNat_and, h1, IntKind.wrap_u32, show (BitVec.ofInt 32 (1 : Int)).toNat = 1 from by decide, Nat.and_one_is_mod]
  omega
theorem zeroTab : ∀ w, (zeroValue 130).run Tryd.prog w = .ok (.agg (Array.replicate 256 (.int .u32 0))) w := fun w => by kernel_rfl
theorem infoTab : (Tryd.prog.info? 130).map (·.size) = some 256 := by kernel_rfl
theorem wpL_alloc {P : Program} (w : World) {ops : Array Oper} {rest : List Oper} {o : Oper} {a : Act} {Q : Exit → Act → World → Prop}
    (hg : o.guard = none) (t : TypeId) (hop : o.op = Op.alloc t) (z : Value) (hz : ∀ w, (zeroValue t).run P w = .ok z w)
    (hK : wpList P ops Q rest (a.put o.dst (.pointer (some ⟨w.heap.size, 0, none⟩))) (w.alloc (.cells z.cells t))) :
    wpList P ops Q (o :: rest) a w := by
  refine wpList_plain hg fun K hK' => ?_
  unfold Oper.wp
  simp [execOp, hop, Instr.alloc, hz, newVar, newRow, go_sem]
  exact hK' _ _ hK

/-- A block of words of the call's own: its first cells are known. -/
def Wds (w : World) (B k : Nat) (f : Nat → Nat) : Prop :=
  ∃ cur : Array Value, w.heap[B]? = some (.cells cur 130 (0, 0)) ∧ cur.size = 256 ∧ (∀ j, j < 256 → ∃ n : Nat, cur[j]? = some (cw n)) ∧ ∀ (j : Nat), j < k → cur[j]? = some (cw (f j))
theorem Wds.cell {w : World} {B k : Nat} {f : Nat → Nat} (h : Wds w B k f) (j : Nat) (hj : j < 256) : ∃ n : Nat, w.cell? ⟨B, j, none⟩ = some (.int .u32 n) := by
  obtain ⟨cur, h1, h2, h3, h4⟩ := h
  obtain ⟨n, hn⟩ := h3 j hj
  exact ⟨n, by simp [World.cell?, h1, hn, cw]⟩
theorem Wds.at {w : World} {B k : Nat} {f : Nat → Nat} (h : Wds w B k f) (j : Nat) (hj : j < k) : w.cell? ⟨B, j, none⟩ = some (.int .u32 (f j)) := by
  obtain ⟨cur, h1, h2, h3, h4⟩ := h
  simp [World.cell?, h1, h4 j hj, cw]
theorem Wds.frozen {w : World} {B k : Nat} {f : Nat → Nat} (h : Wds w B k f) (j : Nat) : w.frozen? ⟨B, j, none⟩ = false := by
  obtain ⟨cur, h1, h2, h3⟩ := h
  simp [World.frozen?, h1]
theorem Wds.push {w : World} {B k : Nat} {f : Nat → Nat} (h : Wds w B k f) (v : Int) (hv : v = (f k : Nat)) (hk : k < 256) : Wds (w.setCell ⟨B, k, none⟩ (.int .u32 v)) B (k + 1) f := by
  obtain ⟨cur, h1, h2, h3, h4⟩ := h
  subst hv
  refine ⟨cur.setIfInBounds k (cw (f k)), ?_, by simp [h2], ?_, ?_⟩
  · simp only [World.setCell, Array.getElem?_modify, if_true, h1]; rfl
  · intro j hj
    by_cases e : k = j
    · subst e; exact ⟨_, Array.getElem?_setIfInBounds_self_of_lt (by omega)⟩
    · rw [Array.getElem?_setIfInBounds_ne e]; exact h3 j hj
  · intro j hj
    by_cases e : k = j
    · subst e; exact Array.getElem?_setIfInBounds_self_of_lt (by omega)
    · rw [Array.getElem?_setIfInBounds_ne e]; exact h4 j (by omega)
def ctabV (f : Nat → Nat) : Array Value := Array.ofFn fun i : Fin 256 => cw (f i)
theorem ctabV_size (f : Nat → Nat) : (ctabV f).size = 256 := by simp [ctabV]
theorem ctabV_one (f : Nat → Nat) : (ctabV f).all (·.oneCell') = true := by
  rw [Array.all_eq_true]
  intro i hi
  simp [ctabV, cw, Value.oneCell']
theorem Wds.full {w : World} {B : Nat} {f : Nat → Nat} (h : Wds w B 256 f) : w.heap[B]? = some (.cells (ctabV f) 130 (0, 0)) := by
  obtain ⟨cur, h1, h2, h3, h4⟩ := h
  have : cur = ctabV f := by
    unfold ctabV
    apply Array.ext
    · simp [h2]
    · intro i hi1 hi2
      have := h4 i (by omega)
      rw [Array.getElem?_eq_getElem hi1] at this
      simpa using this
  rw [h1, this]
theorem Wds.new (w : World) (f : Nat → Nat) : Wds (w.alloc (.cells (Array.replicate 256 (.int .u32 0)) 130)) w.heap.size 0 f :=
  ⟨_, heap_alloc_new w _, by simp, fun j hj => ⟨0, by simp [hj, cw]⟩, fun j hj => by omega⟩

set_option maxRecDepth 100000 in
set_option maxHeartbeats 400000 in
theorem crcTable_any (w : World) : Calls Tryd.prog 75 #[] w fun e w' => e = .returned (.agg (ctabV ctab)) ∧ Below w.heap.size w w' := by
  obtain ⟨cs, hcs⟩ : ∃ cs : Array Value, cs = Array.replicate 256 (.int .u32 0) := ⟨_, rfl⟩
  have hz := zeroTab
  rw [← hcs] at hz
  have Hz := Lib.hid hz
  have Hcs := Lib.hid hcs
  clear hz hcs
  go_enter Tryd.func75, Tryd.ntmps75
  go_wp2_with (first | (refine wpL_alloc _ rfl 130 rfl (.agg cs) Hz.out ?_))
  have h0 : (w.alloc (.cells cs 130)).heap[w.heap.size]? = some (.cells cs 130 (0, 0)) := heap_alloc_new w _
  go_loopw [2, 3, 4] (fun _ _ i wr => ∃ k : Nat, k ≤ 256 ∧ i = .int .i64 k ∧ Wds wr (w.heap.size + 1) k ctab ∧ wr.heap[w.heap.size]? = some (.cells cs 130 (0, 0)) ∧ Below w.heap.size w wr) (fun _ _ i _ => 256 - (intOf i).toNat)
  case atStart =>
    refine ⟨0, by omega, by simp, ?_, ?_, ((Below.refl _ _).alloc (Nat.le_refl _) _).alloc (by simp) _⟩
    · have := Wds.new (w.alloc (.cells cs 130)) ctab
      simp only [World.size_alloc] at this
      rw [← Hcs.out] at this
      exact this
    · rw [heap_alloc_old _ _ (by simp)]; exact h0
  case round =>
    obtain ⟨k, hk, rfl, hr, hr0, hB⟩ := hrel
    have HB := Lib.hid hB
    have HR := Lib.hid hr
    have HR0 := Lib.hid hr0
    clear hB hr hr0 h0
    by_cases hlt : k < 256
    · go_wp2
      go_loop [3, 9] (fun v i => ∃ j x : Nat, j ≤ 8 ∧ i = .int .i64 j ∧ v = .int .u32 x ∧ Hid (x = cstp j k)) (fun _ i => 8 - (intOf i).toNat)
      case atStart => exact ⟨0, k, by omega, rfl, rfl, Lib.hid rfl⟩
      case round =>
        obtain ⟨j, x, hj, rfl, rfl, hx⟩ := hrel
        have hxl : x < 4294967296 := by rw [hx.out]; exact cstp_lt j (by omega)
        by_cases hj8 : j < 8
        · have ha := cand_one x hxl
          by_cases hodd : x % 2 = 1
          · have ht : (bits .and .u32 (x : Int) 1 != 0) = true := by rw [ha, hodd]; rfl
            have HX := Lib.hid (show bits .xor .u32 ((x : Int) / 2) 2197175160 = ((cstp (j + 1) k : Nat) : Int) by
              rw [cstp, ← hx.out, cstepB, if_pos hodd]; exact bits_xor_u32_nat (x / 2) cE0 (by omega) cE0_lt)
            clear ha hodd
            have Hxl := Lib.hid hxl
            clear hxl
            go_wp2
            go_round
            case rel => exact ⟨j + 1, cstp (j + 1) k, by omega, by go_num, by rw [HX.out], Lib.hid rfl⟩
            case measure => simp [intOf]; omega
          · have ht : (bits .and .u32 (x : Int) 1 != 0) = false := by rw [ha, show x % 2 = 0 by omega]; rfl
            have HX := Lib.hid (show (x : Int) / 2 = ((cstp (j + 1) k : Nat) : Int) by
              rw [cstp, ← hx.out, cstepB, if_neg hodd]; omega)
            clear ha hodd
            have Hxl := Lib.hid hxl
            clear hxl
            go_wp2
            go_round
            case rel => exact ⟨j + 1, cstp (j + 1) k, by omega, by go_num, by rw [HX.out], Lib.hid rfl⟩
            case measure => simp [intOf]; omega
        · obtain rfl : j = 8 := by omega
          obtain ⟨n, hc⟩ := HR.out.cell k hlt
          have hf := HR.out.frozen k
          have Hxl := Lib.hid hxl
          clear hxl
          go_wp2
          go_roundw
          case rel => exact ⟨k + 1, by omega, by go_num, HR.out.push _ (by rw [hx.out]; rfl) hlt, by rw [Below.heap_setCell _ _ _ _ (by simp)]; exact HR0.out, HB.out.setCell (by simp) _⟩
          case measure => simp [intOf]; omega
    · obtain rfl : k = 256 := by omega
      go_wp2_with (first | (refine wpList_load_row rfl 130 _ rfl (w.heap.size + 1) rfl 130 _ (0, 0) _ HR.out.full Tryd.underlying130 rfl (by rw [infoTab, ctabV_size]) ?_) | (refine wpList_store_row rfl 130 _ _ rfl w.heap.size _ rfl rfl 130 cs HR0.out (by rw [infoTab, ctabV_size]) (by rw [Hcs.out, ctabV_size]; simp) (ctabV_one _) ?_))
      exact bodyPost_ret (v := .agg (ctabV ctab)) (results_cell_row rfl _ _ w.heap.size 130 _ (0, 0) _ rfl (setRow_heap _ _ _ _ _ _ HR0.out) Tryd.underlying130 rfl (by rw [infoTab, ctabV_size])) rfl ⟨rfl, below_setRow HB.out (Nat.le_refl _) _⟩

end Go.Proofs.YtefpigakhhfcaaaDoor
end

/-! slices.Values over bytes; crc.Add, Sum. -/
section
set_option linter.unusedVariables false
set_option linter.unusedSimpArgs false
namespace Go.Proofs.YtefpigakhhfcaaaDoor
open Go.RowKit Go.Sort
attribute [local go_sem] Oper.semAt_some

def Bc (w : World) (A : Option Addr) (xs : List UInt8) : Prop := ∀ (j : Nat) x, xs[j]? = some x → ∃ ad, A = some ad ∧ w.cell? (ad.add j) = some (bv x)
theorem Bc.same {w w' : World} {A : Option Addr} {ns : List UInt8} (h : Bc w A ns) (hk : ∀ k, rdOf A k → w'.heap[k]? = w.heap[k]?) : Bc w' A ns := by
  intro j x hx
  obtain ⟨ad, rfl, hc⟩ := h j x hx
  exact ⟨ad, rfl, (World.cell?_of_block (by rw [add_block]; exact hk _ ⟨ad, rfl, rfl⟩)).trans hc⟩
theorem Bs.c {w : World} {A : Option Addr} {xs : List UInt8} (h : Bs w A xs) : Bc w A xs := by
  intro j x hx
  cases A with
  | none => rw [h.1 rfl] at hx; simp at hx
  | some ad => exact ⟨ad, rfl, h.2 ad rfl j _ (by rw [List.getElem?_map, hx]; rfl)⟩
set_option maxRecDepth 100000 in
set_option maxHeartbeats 1000000 in
theorem valuesB_iter (B n c : Nat) (A : Option Addr) (ns : List UInt8) (w : World) (hb : Boxed w B 31 (.slice A n c)) (hn : n = ns.length) (hl : n ≤ 1000000) (hs : Bc w A ns) (hA : ∀ ad, A = some ad → ns = [] ∨ ad.block < w.heap.size) :
    Iter Tryd.prog 82 #[.pointer (some ⟨B, 0, none⟩)] (fun x : UInt8 => #[bv x]) (fun _ => False) (fun k => ns ≠ [] ∧ rdOf A k) ns w := by
  intro l J Jx W hW hJ hJx hY h0
  refine callsIn_of_wp Tryd.func82 rfl trivial ?_ rfl
  have hb' : Boxed W B 31 (.slice A n c) := hW.heap hb (by simp)
  have hcp := hb'.cell
  have HS : Hid (Bc W A ns) := Lib.hid (by
    by_cases he : ns = []
    · subst he; intro j p hp; simp at hp
    · exact hs.same fun k ⟨ad, e, e2⟩ => hW.block k (by rw [← e2]; exact (hA ad e).resolve_left he) (by simp))
  have Hn := Lib.hid hn
  have HY := Lib.hid hY
  have H0 := Lib.hid h0
  clear hb hb' hY hs hA hn h0
  simp only [Tryd.ntmps82, List.size_toArray, List.length_cons, List.length_nil, Nat.reduceAdd, Nat.reduceSub, Array.replicate_succ, Array.replicate_zero, List.push_toArray, List.append_toArray, List.nil_append, List.cons_append]
  gi_wp2
  gi_loopw [4, 7] (fun _ i wr => ∃ j : Nat, i = .int .i64 j ∧ j ≤ n ∧ Hid (J (ns.take j) wr) ∧ Hid (Bc wr A ns)) (fun _ i _ => n - iNat i)
  case atStart => exact ⟨0, rfl, by omega, Lib.hid (by simpa using H0.out), HS⟩
  case round =>
    obtain ⟨j, rfl, hj, hJ1, hS1⟩ := hrel
    by_cases hlt : j < n
    · have hlt' : (j : Int) < (n : Int) := by omega
      have hjn : j < ns.length := by have := Hn.out; omega
      obtain ⟨x, hx⟩ : ∃ x, ns[j]? = some x := ⟨_, List.getElem?_eq_getElem hjn⟩
      have hd : ns.drop j = x :: ns.drop (j + 1) := by
        rw [List.drop_eq_getElem_cons hjn, (List.getElem?_eq_some_iff.1 hx).2]
      obtain ⟨ad, rfl, hc⟩ := hS1.out j x hx
      obtain ⟨fn, tmps, assign, body, hy, hR⟩ := HY.out (ns.take j) x (ns.drop (j + 1)) wr (by rw [← hd, List.take_append_drop]) hJ1.out
      unfold bv at hy hc
      have HR := Lib.hid hR
      have Hx := Lib.hid hx
      have Hd := Lib.hid hd
      clear hR hjn hx hd
      gi_wp2
      refine HR.out.mono ?_
      rintro e W3 (⟨rfl, hJ3, _, hk3⟩ | ⟨rfl, hJx3⟩)
      · have HJ3 := Lib.hid hJ3
        have HS3 := Lib.hid (hS1.out.same fun k hk => hk3 k ⟨by intro e; have := Hn.out; rw [e] at this; simp at this; omega, hk⟩)
        clear hJ3 hk3
        gi_wp2
        go_roundw
        case rel =>
          refine ⟨j + 1, congrArg (Value.int .i64) (by omega), by omega, Lib.hid ?_, HS3⟩
          rw [List.take_add_one, Hx.out]
          exact HJ3.out
        case measure => simp only [iNat]; omega
      · gi_wp2
        refine bodyPost_ret (results_none rfl _ _ _) rfl ?_
        refine ⟨⟨_, rfl⟩, .inr ⟨_, ?_, hJx3⟩⟩
        refine ⟨ns.drop (j + 1), ?_⟩
        rw [List.append_assoc, List.singleton_append, ← Hd.out, List.take_append_drop]
    · have hlt' : ¬ (j : Int) < (n : Int) := by omega
      gi_wp2
      refine bodyPost_end (results_none rfl _ _ _) rfl ?_
      have : ns.take j = ns := List.take_of_length_le (by have := Hn.out; omega)
      exact ⟨⟨_, rfl⟩, .inl (by have h := hJ1.out; rw [this] at h; exact h)⟩
theorem valuesB_of (A : Option Addr) (n c : Nat) (w : World) : Calls Tryd.prog 76 #[.slice A n c] w fun e w' => e = .returned (.func (.func 82) #[] #[.pointer (some ⟨w.heap.size, 0, none⟩)]) ∧ w' = w.alloc (.cells #[.slice A n c] 31) := by
  go_enter Tryd.func76, Tryd.ntmps76
  go_wp2
  go_ret
  exact ⟨rfl, rfl⟩
/-- The sum of bytes. -/
def crcStep (v : Nat) (c : UInt8) : Nat := v / 256 ^^^ ctab (v % 256 ^^^ c.toNat)
def crcV (s : Nat) (b : List UInt8) : Nat := b.foldl crcStep (s ^^^ 4294967295)
def crcN (b : List UInt8) : Nat := crcV 0 b ^^^ 4294967295
theorem ctab_lt {q : Nat} (h : q < 256) : ctab q < 4294967296 := cstp_lt 8 (by omega)
theorem crcStep_lt {v : Nat} (c : UInt8) (h : v < 4294967296) : crcStep v c < 4294967296 := cxor_lt (by omega) (ctab_lt (Nat.xor_lt_two_pow (n := 8) (by omega) c.toNat_lt))
theorem crcV_lt {s : Nat} (b : List UInt8) (h : s < 4294967296) : crcV s b < 4294967296 := by
  unfold crcV
  have : ∀ (b : List UInt8) (v : Nat), v < 4294967296 → b.foldl crcStep v < 4294967296 := by
    intro b
    induction b with
    | nil => intro v h; exact h
    | cons c b ih => intro v h; exact ih _ (crcStep_lt c h)
  exact this b _ (cxor_lt h (by omega))
theorem crcV_snoc (s : Nat) (b : List UInt8) (c : UInt8) : crcV s (b ++ [c]) = crcStep (crcV s b) c := by simp [crcV, List.foldl_append]
theorem crcN_lt (b : List UInt8) : crcN b < 4294967296 := cxor_lt (crcV_lt b (by omega)) (by omega)
end Go.Proofs.YtefpigakhhfcaaaDoor
end
