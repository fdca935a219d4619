import Derived.Test.YtefpigakhhfcaaaDoorMat
import Derived.Test.YtefpigakhhfcaaaDoorMan
/-! crc.Add, crc.Sum. -/
section
set_option linter.unusedVariables false
set_option linter.unusedSimpArgs false
namespace Go.Proofs.YtefpigakhhfcaaaDoor
open Go.RowKit Go.Sort
attribute [local go_sem] Oper.semAt_some

theorem bits_xor_u8_nat (a b : Nat) (ha : a < 256) (hb : b < 256) : bits .xor .u8 (a : Int) (b : Int) = ((a ^^^ b : Nat) : Int) := by
  have hx : a ^^^ b < 2 ^ 8 := Nat.xor_lt_two_pow (by omega) (by omega)
  have h1 : (BitVec.ofInt 8 (a : Int)).toNat = a := by
    rw [BitVec.ofInt_natCast, BitVec.toNat_ofNat]; exact Nat.mod_eq_of_lt (by omega)
  have h2 : (BitVec.ofInt 8 (b : Int)).toNat = b := by
    rw [BitVec.ofInt_natCast, BitVec.toNat_ofNat]; exact Nat.mod_eq_of_lt (by omega)
  show IntKind.u8.wrap ((BitVec.ofInt 8 (a : Int) ^^^ BitVec.ofInt 8 (b : Int)).toNat : Int) = _
  rw [BitVec.toNat_xor, h1, h2, IntKind.wrap_u8]
  omega
set_option maxRecDepth 100000 in
theorem ixTab (B0 q : Nat) (hq : q < 256) (w : World) : (Instr.indexAt 130 (.pointer (some ⟨B0, 0, none⟩)) (.int .u8 (q : Int))).run Tryd.prog w = .ok (.pointer (some ⟨B0, q, none⟩)) w := by
  have h1 : Tryd.prog.arrayLen 130 = 256 := by kernel_rfl
  have h2 : (sizeOf (Tryd.prog.elem 130)).run Tryd.prog w = .ok 1 w := by kernel_rfl
  rw [run_indexAt_array (t := 130) (h := Tryd.underlying130), h1, h2, if_pos (by omega)]
  simp [Result.andThen, Addr.add]
  omega
set_option maxRecDepth 100000 in
set_option maxHeartbeats 4000000 in
theorem crcAdd_any (w : World) (A : Option Addr) (n c : Nat) (xs : List UInt8) (hn : n = xs.length) (hl : n ≤ 1000000) (h : Bs w A xs) :
    Calls Tryd.prog 64 #[.int .u32 0, .slice A n c] w fun e w' => e = .returned (.int .u32 (crcN xs : Nat)) ∧ Kept (fun _ => False) w w' := by
  have H := Lib.hid h
  have Hn := Lib.hid hn
  clear h hn
  obtain ⟨cs, hcs⟩ : ∃ cs : Array Value, cs = Array.replicate 256 (.int .u32 0) := ⟨_, rfl⟩
  have hz := zeroTab
  rw [← hcs] at hz
  have Hz := Lib.hid hz
  have Hcs := Lib.hid hcs
  clear hz hcs
  obtain ⟨tv, htv⟩ : ∃ tv, tv = ctabV ctab := ⟨_, rfl⟩
  have HT := Lib.hid crcTable_any
  rw [← htv] at HT
  have Htv := Lib.hid htv
  clear htv
  have hx0 : bits .xor .u32 0 4294967295 = 4294967295 := by
    have := bits_xor_u32_nat 0 4294967295 (by omega) (by omega)
    rw [Nat.zero_xor] at this
    exact this
  refine calls_of_marks Tryd.func64 rfl ?_
  simp only [Tryd.ntmps64, List.size_toArray, List.length_cons, List.length_nil, Nat.reduceAdd, Nat.reduceSub, Array.replicate_succ, Array.replicate_zero, List.push_toArray, List.append_toArray, List.nil_append, List.cons_append]
  go_wp2_with (first
    | (go_at_call 75; refine (HT.out _).mono ?_; rintro e w1 ⟨rfl, hB1⟩; have HB1 := Lib.hid hB1; clear hB1)
    | (refine wpL_alloc _ rfl 130 rfl (.agg cs) Hz.out ?_)
    | (refine wpList_store_row rfl 130 _ _ rfl w1.heap.size tv rfl rfl 130 cs (heap_alloc_new w1 _) (by rw [infoTab, Htv.out, ctabV_size]) (by rw [Hcs.out, Htv.out, ctabV_size]; simp) (by rw [Htv.out]; exact ctabV_one _) ?_)
    | (go_at_call 76; refine (valuesB_of _ _ _ _).mono ?_; rintro e w' ⟨rfl, rfl⟩))
  obtain ⟨W0, hW0⟩ : ∃ W0, W0 = ((((w1.alloc (.cells cs 130)).setRow w1.heap.size tv).alloc (.cells #[.int .u32 4294967295] 108)).alloc (.cells #[.slice A n c] 31)) := ⟨_, rfl⟩
  rw [← hW0]
  obtain ⟨B0, hB0⟩ : ∃ B0, B0 = w1.heap.size := ⟨_, rfl⟩
  have hsz : W0.heap.size = B0 + 3 := by rw [hW0, hB0]; simp
  have hBW : Below w.heap.size w W0 := by
    rw [hW0]
    exact ((below_setRow (HB1.out.alloc HB1.out.size _) HB1.out.size _).alloc (by simp; have := HB1.out.size; omega) _).alloc (by simp; have := HB1.out.size; omega) _
  have hkW : Kept (fun _ => False) w W0 := Kept.of_below hBW _ (fun k h1 h2 => by omega)
  have hT0 : W0.heap[B0]? = some (.cells tv 130 (0, 0)) := by
    rw [hW0, hB0, heap_alloc_old _ _ (by simp; omega), heap_alloc_old _ _ (by simp)]
    exact setRow_heap _ _ _ _ _ _ (heap_alloc_new w1 _)
  have hV0 : Boxed W0 (B0 + 1) 108 (.int .u32 4294967295) := by
    have := (Boxed.new ((w1.alloc (.cells cs 130)).setRow w1.heap.size tv) 108 (.int .u32 4294967295)).alloc (.cells #[.slice A n c] 31)
    rw [hW0, hB0]; simpa using this
  have hS0 : Boxed W0 (B0 + 1 + 1) 31 (.slice A n c) := by
    have := (Boxed.new (((w1.alloc (.cells cs 130)).setRow w1.heap.size tv).alloc (.cells #[.int .u32 4294967295] 108)) 31 (.slice A n c))
    rw [hW0, hB0]; simpa using this
  have hsle : w.heap.size ≤ B0 := by rw [hB0]; exact HB1.out.size
  clear hW0
  rw [← hB0]
  clear hB0
  have hblk : ∀ ad, A = some ad → xs = [] ∨ ad.block < w.heap.size := by
    intro ad e
    cases hxs : xs with
    | nil => exact .inl rfl
    | cons q ms' =>
      have hc' := H.out.2 ad e 0 (bv q) (by rw [hxs]; rfl)
      have := World.block_lt_of_cell? w _ hc'
      rw [add_block] at this
      exact .inr this
  have hit := valuesB_iter (B0 + 1 + 1) n c A xs W0 hS0 Hn.out hl (H.out.kept hkW (by simp)).c (fun ad e => (hblk ad e).imp id fun h => by omega)
  refine wp_range (gf := 82) rfl (enters_of Tryd.func82 (by kernel_rfl) rfl) hit (fun _ => rfl) (fun k h => h.elim) (fun k ⟨hne, ad, e, e2⟩ => by rw [← e2]; have := (hblk ad e).resolve_left hne; omega)
    (fun pre W => W.heap[B0]? = some (.cells tv 130 (0, 0)) ∧ Boxed W (B0 + 1) 108 (.int .u32 (crcV 0 pre : Nat)) ∧ Kept (fun _ => False) w W)
    (fun c pre W => False)
    (fun pre A C h hk => ⟨hk.heap h.1 (fun e => by rcases e with e | e | e; exact e; omega; omega), hk.heap h.2.1 (fun e => by rcases e with e | e | e; exact e; omega; omega), h.2.2.trans hk fun i hi e => by rcases e with e | e | e; exact e; omega; omega⟩)
    (fun c pre A C h hk => h.elim)
    ⟨hT0, hV0, hkW⟩
    (fun x => { tmps := #[.int .u32 0, .slice A n c, undef, undef, .int .u32 0, .pointer (some ⟨B0, 0, none⟩), .pointer (some ⟨B0 + 1, 0, none⟩), bv x, .agg tv, .int .u32 0, .int .u32 4294967295, .slice A n c, .func (.func 82) #[] #[.pointer (some ⟨B0 + 1 + 1, 0, none⟩)], bv x, undef, undef, undef, undef, undef, undef, undef, undef, undef, undef, undef], defers := [] }) ?assign ?body ?done ?stop
  case assign =>
    intro l x W K hK
    gi_wp2
    exact hK
  case body =>
    rintro l pre x post W hxs ⟨hT, hV, hk⟩ hsz2
    have hpl : crcV 0 pre < 4294967296 := crcV_lt pre (by omega)
    obtain ⟨p, hp⟩ : ∃ p, p = crcV 0 pre := ⟨_, rfl⟩
    rw [← hp] at hV hpl
    have hc := hV.cell
    have hf := hV.frozen
    have hxl : x.toNat < 256 := x.toNat_lt
    obtain ⟨q, hq⟩ : ∃ q, q = p % 256 ^^^ x.toNat := ⟨_, rfl⟩
    have hq8 : q < 256 := by rw [hq]; exact Nat.xor_lt_two_pow (n := 8) (by omega) hxl
    have hxr : bits .xor .u8 (IntKind.u8.wrap (p : Int)) (x.toNat : Int) = (q : Int) := by rw [hq, show IntKind.u8.wrap (p : Int) = ((p % 256 : Nat) : Int) by rw [IntKind.wrap_u8]; omega]; exact bits_xor_u8_nat _ _ (by omega) hxl
    have hct : W.cell? ⟨B0, q, none⟩ = some (.int .u32 (ctab q : Nat)) := by simp [World.cell?, hT, Htv.out, ctabV, hq8, cw]
    have hq9 : (q : Int) < 256 := by omega
    have hxx : bits .xor .u32 ((p : Int) / 256) (ctab q : Nat) = ((crcV 0 (pre ++ [x]) : Nat) : Int) := by
      rw [crcV_snoc, ← hp, crcStep, ← hq]
      exact bits_xor_u32_nat (p / 256) (ctab q) (by omega) (ctab_lt hq8)
    have Hxx := Lib.hid hxx
    have HV := Lib.hid hV
    have HT' := Lib.hid hT
    have HK := Lib.hid hk
    have HS2 := Lib.hid hsz2
    have hix := ixTab B0 q hq8
    have Hrd : Hid (∀ k, (xs ≠ [] ∧ rdOf A k) → k < w.heap.size) := Lib.hid fun k ⟨hne, ad, e, e2⟩ => by rw [← e2]; exact (hblk ad e).resolve_left hne
    unfold bv
    clear hp hV hT hq hpl hxx hk hit hxs hblk hsz2 hT0 hV0 hS0 hkW hBW
    gi_wp2
    refine wpIn_still_drew 9 (by kernel_rfl) (by kernel_rfl) (by kernel_rfl) (fun ⟨_, _, h⟩ => h) ?_
    simp only [List.take_succ_cons, List.take_zero, List.drop_succ_cons, List.drop_zero]
    repeat still_step
    refine wpStill_nil ?_
    go_wp2
    rw [Hxx.out]
    have hk9 : Kept (fun k => k = B0 + 1) W (W.setCell ⟨B0 + 1, 0, none⟩ (.int .u32 (crcV 0 (pre ++ [x]) : Nat))).drew := ((Kept.refl (fun k => k = B0 + 1) W).setCell (fun _ => rfl) _).drew
    have h2 := HS2.out
    refine ⟨⟨hk9.size, fun k hk => hk9.block k (by rcases hk with hk | hk | hk; have := Hrd.out k hk; omega; omega; omega) (by rcases hk with hk | hk | hk; have := Hrd.out k hk; omega; omega; omega)⟩, hk9.heap HT'.out (by omega), HV.out.set _, HK.out.trans hk9 fun i hi e => by omega⟩
  case done =>
    rintro W ⟨hT, hV, hk⟩ hD
    have bo := hV.cell
    have HK := Lib.hid hk
    have HD := Lib.hid hD
    have hcl := crcV_lt (s := 0) xs (by omega)
    have hfin : bits .xor .u32 (crcV 0 xs : Nat) 4294967295 = ((crcN xs : Nat) : Int) := bits_xor_u32_nat (crcV 0 xs) 4294967295 hcl (by omega)
    have Hf := Lib.hid hfin
    clear hT hV hk hD hit hcl hfin
    go_wp2
    refine leave_mark' HD.out (v := .int .u32 (bits .xor .u32 (crcV 0 xs : Nat) 4294967295)) (show _ = Result.ok _ _ from results_tmp (t := 4) rfl _ _ _) ⟨by rw [Hf.out], ?_⟩
    exact HK.out.trans (putObj_kept W W0.heap.size (.deferred none)) fun i hi e => by omega
  case stop =>
    intro c pre W _ h
    exact h.elim
set_option maxHeartbeats 1000000 in
theorem crcSum_any (w : World) (A : Option Addr) (n c : Nat) (xs : List UInt8) (hn : n = xs.length) (hl : n ≤ 1000000) (h : Bs w A xs) :
    Calls Tryd.prog 53 #[.slice A n c] w fun e w' => e = .returned (.int .u32 (crcN xs : Nat)) ∧ Kept (fun _ => False) w w' := by
  have H := Lib.hid (crcAdd_any w A n c xs hn hl h)
  clear h hn
  go_enter Tryd.func53, Tryd.ntmps53
  go_wp2_with (go_at_call 64; refine H.out.mono ?_; rintro e w1 ⟨rfl, hk⟩; have HK := Lib.hid hk; clear hk)
  go_ret
  exact ⟨rfl, HK.out⟩
end Go.Proofs.YtefpigakhhfcaaaDoor
end

/-! slices.All over bytes that a round writes; a range over it. -/
section
set_option linter.unusedVariables false
set_option linter.unusedSimpArgs false
namespace Go.Proofs.YtefpigakhhfcaaaDoor
open Go.RowKit Go.Sort
attribute [local go_sem] Oper.semAt_some

/-- The iterator gf (with what it has captured, lb) tells xs, in order, or a part, a round having said 'no more'. It writes blocks of 'own' alone (and new ones); it asks of a round that goes on that the blocks of 'rd' stay. -/
def IterC {α : Type} (P : Program) (gf : Nat) (lb : Array Value) (encs : α → Array Value) (own rd : Nat → Prop) (C : List α → World → Prop) (xs : List α) (w : World) : Prop :=
  ∀ (l : Nat) (J Jx : List α → World → Prop) (W : World), Kept (fun _ => False) w W →
    (∀ pre A B, J pre A → Kept own A B → J pre B) → (∀ pre A B, Jx pre A → Kept own A B → Jx pre B) →
    (∀ pre W, J pre W → C pre W) →
    (∀ pre x post W1, xs = pre ++ x :: post → J pre W1 → YieldAt Fence.wide 7 P l (encs x) W1 fun e W' =>
      (e = .returned (.bool true) ∧ J (pre ++ [x]) W' ∧ W1.heap.size ≤ W'.heap.size ∧ ∀ k, rd k → W'.heap[k]? = W1.heap[k]?) ∨ (e = .returned (.bool false) ∧ Jx (pre ++ [x]) W')) →
    J [] W →
    CallsIn Fence.wide 8 P gf (#[.func (.yield l) #[] #[]] ++ lb) W fun e W' => (∃ v, e = .returned v) ∧ (J xs W' ∨ ∃ pre, pre <+: xs ∧ Jx pre W')

/-- The law. D: the block of the rounds' deferred calls; D + 1: the loop's record. -/
theorem wp_rangeC {α : Type} {P : Program} {g : Operand} {ps : Array Tmp} {assign body : Code} {Q : Exit → Act → World → Prop} {a : Act} {w : World}
    {gf : Nat} {lb : Array Value} (hg : a.eval g = .func (.func gf) #[] lb) (eg : ∀ args w, (callFunc gf args).run P w = .ok (.enter gf args) w)
    {encs : α → Array Value} {own rd : Nat → Prop} {C : List α → World → Prop} {xs : List α} (hit : IterC P gf lb encs own rd C xs w) (hps : ∀ x, (encs x).size = ps.size)
    (ho : ∀ k, own k → k < w.heap.size) (hr : ∀ k, rd k → k < w.heap.size)
    (I : List α → World → Prop) (Ix : Code → List α → World → Prop)
    (hC : ∀ pre W, I pre W → C pre W)
    (hI : ∀ pre A B, I pre A → Kept (fun k => own k ∨ k = w.heap.size ∨ k = w.heap.size + 1) A B → I pre B)
    (hIx : ∀ c pre A B, Ix c pre A → Kept (fun k => own k ∨ k = w.heap.size ∨ k = w.heap.size + 1) A B → Ix c pre B)
    (h0 : I [] w) (a₁ : α → Act)
    (hassign : ∀ (l : Nat) (x : α) (W : World) (K : Act → World → Prop), K (a₁ x) W →
      assign.wpIn (Fence.wide.inRound l) 7 P (Exit.then K (fun _ _ _ => False)) { tmps := (ps.zip (encs x)).foldl (fun t (p, v) => t.setIfInBounds p v) a.tmps, defers := [] } W)
    (hbody : ∀ (l : Nat) (pre : List α) (x : α) (post : List α) (W : World), xs = pre ++ x :: post → I pre W → w.heap.size + 2 ≤ W.heap.size → body.wpIn (Fence.wide.inRound l) 7 P (roundPost w.heap.size rd I Ix (pre ++ [x]) W) (a₁ x) W)
    (hdone : ∀ (W : World), I xs W → W.heap[w.heap.size]? = some (.deferred (some [])) → Q .normal { a with defers := { target := .collected w.heap.size, args := #[] } :: a.defers } W)
    (hstop : ∀ (c : Code) (pre : List α) (W : World), pre <+: xs → Ix c pre W → W.heap[w.heap.size]? = some (.deferred (some [])) → c.wp P Q { a with defers := { target := .collected w.heap.size, args := #[] } :: a.defers } W) :
    (Code.rangeFunc g ps assign body).wp P Q a w := by
  refine (wpIn_wide (n := 9)).1 (wpIn_rangeFunc ?_)
  intro fn hfn
  obtain ⟨rec, hrec⟩ : ∃ rec : LoopState → Option Code → Loop, rec = fun st pe => { state := st, pending := pe, fn, tmps := a.tmps, params := ps, assign, body, defers := w.heap.size } := ⟨_, rfl⟩
  obtain ⟨W1, hW1⟩ : ∃ W1, (w.alloc (.deferred (some []))).alloc (.loop (rec .ready none)) = W1 := ⟨_, rfl⟩
  have hL1 : W1.heap[w.heap.size + 1]? = some (.loop (rec .ready none)) := by
    rw [← hW1]; have := World.alloc_heap_new (w.alloc (.deferred (some []))) (.loop (rec .ready none)); rwa [World.size_alloc] at this
  have hK1 : W1.heap[w.heap.size]? = some (.deferred (some [])) := by
    rw [← hW1]; exact (Below.heap_alloc _ _ _ (by simp)).trans (World.alloc_heap_new w _)
  have hk1 : Kept (fun _ => False) w W1 := by rw [← hW1]; exact ((Kept.refl _ w).alloc _).alloc _
  have hI1 : I [] W1 := hI _ _ _ h0 (hk1.mono fun _ _ h => h.elim)
  have no : ∀ k, own k → k ≠ w.heap.size ∧ k ≠ w.heap.size + 1 := fun k h => ⟨by have := ho k h; omega, by have := ho k h; omega⟩
  refine ⟨w.heap.size + 1, [{ target := .collected w.heap.size, args := #[] }], W1, { target := .fn (.func gf) lb, args := #[.func (.yield (w.heap.size + 1)) #[] #[]] }, W1, gf,
    #[.func (.yield (w.heap.size + 1)) #[] #[]] ++ lb, W1, ?_, ?_, fun _ _ => trivial, ?_, fun _ => by omega, ?_⟩
  · rw [← hW1, hrec]; exact run_enterLoop_outer _ _ _ _ _
  · simp only [resolve, hg]
    simp [go_sem]
  · simp [invoke, go_sem, eg]
  · refine (hit (w.heap.size + 1)
      (fun pre W => (I pre W ∧ W1.heap.size ≤ W.heap.size) ∧ W.heap[w.heap.size + 1]? = some (.loop (rec .ready none)) ∧ W.heap[w.heap.size]? = some (.deferred (some [])))
      (fun pre W => ∃ c, Ix c pre W ∧ W.heap[w.heap.size + 1]? = some (.loop (rec .done (some c))) ∧ W.heap[w.heap.size]? = some (.deferred (some [])))
      W1 hk1
      (fun pre A B hs hk => ⟨⟨hI _ _ _ hs.1.1 (hk.mono fun _ _ h => .inl h), Nat.le_trans hs.1.2 hk.size⟩, hk.heap hs.2.1 (fun h => (no _ h).2 rfl), hk.heap hs.2.2 (fun h => (no _ h).1 rfl)⟩)
      (fun pre A B hs hk => by
        obtain ⟨c, hc, hl, hd⟩ := hs
        exact ⟨c, hIx _ _ _ _ hc (hk.mono fun _ _ h => .inl h), hk.heap hl (fun h => (no _ h).2 rfl), hk.heap hd (fun h => (no _ h).1 rfl)⟩)
      (fun pre W h => hC _ _ h.1.1) ?_ ⟨⟨hI1, Nat.le_refl _⟩, hL1, hK1⟩).mono ?_
    · -- one round
      rintro pre x post W hxs ⟨⟨hi, hsz⟩, hl, hk⟩
      have hlt : w.heap.size + 1 < W.heap.size := (Array.getElem?_eq_some_iff.1 hl).1
      have hy := run_yield (P := P) (args := encs x) hl (by rw [hrec]; exact hps x)
      rw [hrec] at hy
      refine ⟨fn, _, assign, body, hy, roundIn_of_wpIn trivial (hassign _ x W _ ⟨_, run_beginRound hl (by rw [hrec]), ?_⟩)⟩
      obtain ⟨W2, hW2⟩ : ∃ W2, W2 = W.putObj (w.heap.size + 1) (.loop { rec .ready none with state := .busy }) := ⟨_, rfl⟩
      rw [← hW2]
      have kp2 : Kept (fun k => k = w.heap.size + 1) W W2 := by rw [hW2]; exact putObj_kept _ _ _
      have hl2 : W2.heap[w.heap.size + 1]? = some (.loop { rec .ready none with state := .busy }) := by rw [hW2]; exact World.putObj_heap_same hlt
      have hk2 : W2.heap[w.heap.size]? = some (.deferred (some [])) := kp2.heap hk (by omega)
      have hs2 : W2.heap.size = W.heap.size := by rw [hW2]; simp [World.putObj]
      refine wpIn_mono (hbody _ pre x post _ hxs (hI _ _ _ hi (kp2.mono fun _ _ h => .inr (.inr h))) (by omega)) ?_
      have fin : ∀ (jump : Option Code) (W3 : World), (∀ k, (k = w.heap.size ∨ k = w.heap.size + 1) → W3.heap[k]? = W2.heap[k]?) →
          (Instr.endRound (w.heap.size + 1) jump).run P W3 = .ok (.bool jump.isNone) (W3.putObj (w.heap.size + 1) (.loop (rec (if jump.isNone then .ready else .done) jump))) ∧
          (W3.putObj (w.heap.size + 1) (.loop (rec (if jump.isNone then .ready else .done) jump))).heap[w.heap.size + 1]? = some (.loop (rec (if jump.isNone then .ready else .done) jump)) ∧
          (W3.putObj (w.heap.size + 1) (.loop (rec (if jump.isNone then .ready else .done) jump))).heap[w.heap.size]? = some (.deferred (some [])) := fun jump W3 hk3 => by
        have hl3 := (hk3 (w.heap.size + 1) (.inr rfl)).trans hl2
        have := run_endRound (P := P) jump hl3
        rw [hrec] at this ⊢
        exact ⟨this, World.putObj_heap_same (Array.getElem?_eq_some_iff.1 hl3).1, (World.putObj_heap_other (by omega)).trans ((hk3 _ (.inl rfl)).trans hk2)⟩
      rintro e a3 W3 hp
      cases e with
      | normal =>
        obtain ⟨⟨hs3, hk3⟩, hi3⟩ := hp
        obtain ⟨hr', hl4, hk4⟩ := fin none W3 (fun k hk => hk3 k (.inr hk))
        refine ⟨_, _, hr', .inl ⟨rfl, ⟨⟨hI _ _ _ hi3 ((putObj_kept _ _ _).mono fun _ _ h => .inr (.inr h)), ?_⟩, hl4, hk4⟩, ?_, fun k hk => ?_⟩⟩
        · simp [World.putObj]; omega
        · simp [World.putObj]; omega
        · have := hr k hk
          rw [World.putObj_heap_other (by omega), hk3 k (.inl hk)]
          exact kp2.block k (by omega) (by omega)
      | ret =>
        obtain ⟨hr', hl4, hk4⟩ := fin (some .ret) W3 hp.1
        exact ⟨_, _, hr', .inr ⟨rfl, .ret, hIx _ _ _ _ hp.2 ((putObj_kept _ _ _).mono fun _ _ h => .inr (.inr h)), hl4, hk4⟩⟩
      | exit id =>
        obtain ⟨hr', hl4, hk4⟩ := fin (some (.exit id)) W3 hp.1
        exact ⟨_, _, hr', .inr ⟨rfl, .exit id, hIx _ _ _ _ hp.2 ((putObj_kept _ _ _).mono fun _ _ h => .inr (.inr h)), hl4, hk4⟩⟩
      | goto t =>
        obtain ⟨hr', hl4, hk4⟩ := fin (some (.goto t)) W3 hp.1
        exact ⟨_, _, hr', .inr ⟨rfl, .goto t, hIx _ _ _ _ hp.2 ((putObj_kept _ _ _).mono fun _ _ h => .inr (.inr h)), hl4, hk4⟩⟩
      | panic ch => exact hp.elim
      | outgrown => exact hp.elim
    · -- behind the iterator
      rintro e W2 ⟨⟨v, rfl⟩, (⟨⟨hi, _⟩, hl, hk⟩ | ⟨pre, hpre, c, hi, hl, hk⟩)⟩
      · exact ⟨none, _, by have := run_endLoop (P := P) hl (by rw [hrec]; simp); rw [hrec] at this; exact this, hdone _ (hI _ _ _ hi ((putObj_kept _ _ _).mono fun _ _ h => .inr (.inr h))) ((World.putObj_heap_other (by omega)).trans hk)⟩
      · exact ⟨some c, _, by have := run_endLoop (P := P) hl (by rw [hrec]; simp); rw [hrec] at this; exact this, wpIn_wide.2 (hstop c pre _ hpre (hIx _ _ _ _ hi ((putObj_kept _ _ _).mono fun _ _ h => .inr (.inr h))) ((World.putObj_heap_other (by omega)).trans hk))⟩

set_option maxRecDepth 100000 in
set_option maxHeartbeats 1000000 in
theorem allB_iter (B Bb n : Nat) (w : World) (hb : Boxed w B 31 (.slice (some ⟨Bb, 0, none⟩) n n)) (hl : n ≤ 1000000) :
    IterC Tryd.prog 74 #[.pointer (some ⟨B, 0, none⟩)] (fun i : Nat => #[.int .i64 (i : Nat), .int .u8 0]) (fun _ => False) (fun _ => False) (fun pre W => pre.length < n → W.cell? ⟨Bb, pre.length, none⟩ = some (.int .u8 0)) (List.range n) w := by
  intro l J Jx W hW hJ hJx hC hY h0
  refine callsIn_of_wp Tryd.func74 rfl trivial ?_ rfl
  have hb' : Boxed W B 31 (.slice (some ⟨Bb, 0, none⟩) n n) := hW.heap hb (by simp)
  have hcp := hb'.cell
  have HC := Lib.hid hC
  have HY := Lib.hid hY
  have H0 := Lib.hid h0
  clear hb hb' hY h0 hC
  simp only [Tryd.ntmps74, List.size_toArray, List.length_cons, List.length_nil, Nat.reduceAdd, Nat.reduceSub, Array.replicate_succ, Array.replicate_zero, List.push_toArray, List.append_toArray, List.nil_append, List.cons_append]
  gi_wp2
  gi_loopw [3, 4, 7] (fun _ _ i wr => ∃ j : Nat, i = .int .i64 j ∧ j ≤ n ∧ Hid (J (List.range j) wr)) (fun _ _ i _ => n - iNat i)
  case atStart => exact ⟨0, rfl, by omega, Lib.hid (by simpa using H0.out)⟩
  case round =>
    obtain ⟨j, rfl, hj, hJ1⟩ := hrel
    by_cases hlt : j < n
    · have hlt' : (j : Int) < (n : Int) := by omega
      have hd : List.range n = List.range j ++ j :: (List.range n).drop (j + 1) := by
        have h1 := List.take_append_drop j (List.range n)
        rw [List.take_range, Nat.min_eq_left (by omega), List.drop_eq_getElem_cons (by simpa using hlt)] at h1
        simpa using h1.symm
      have hc := HC.out _ _ hJ1.out (by simpa using hlt)
      rw [List.length_range] at hc
      obtain ⟨fn, tmps, assign, body, hy, hR⟩ := HY.out (List.range j) j ((List.range n).drop (j + 1)) wr hd hJ1.out
      have HR := Lib.hid hR
      have Hd := Lib.hid hd
      clear hR hd
      gi_wp2
      refine HR.out.mono ?_
      rintro e W3 (⟨rfl, hJ3, _, hk3⟩ | ⟨rfl, hJx3⟩)
      · have HJ3 := Lib.hid hJ3
        clear hJ3 hk3
        gi_wp2
        go_roundw
        case rel =>
          refine ⟨j + 1, congrArg (Value.int .i64) (by omega), by omega, Lib.hid ?_⟩
          rw [List.range_succ]
          exact HJ3.out
        case measure => simp only [iNat]; omega
      · gi_wp2
        refine bodyPost_ret (results_none rfl _ _ _) rfl ?_
        refine ⟨⟨_, rfl⟩, .inr ⟨_, ?_, hJx3⟩⟩
        refine ⟨(List.range n).drop (j + 1), ?_⟩
        rw [List.append_assoc, List.singleton_append]
        exact Hd.out.symm
    · have hlt' : ¬ (j : Int) < (n : Int) := by omega
      obtain rfl : j = n := by omega
      gi_wp2
      refine bodyPost_end (results_none rfl _ _ _) rfl ?_
      exact ⟨⟨_, rfl⟩, .inl hJ1.out⟩
theorem allB_of (A : Option Addr) (n c : Nat) (w : World) : Calls Tryd.prog 63 #[.slice A n c] w fun e w' => e = .returned (.func (.func 74) #[] #[.pointer (some ⟨w.heap.size, 0, none⟩)]) ∧ w' = w.alloc (.cells #[.slice A n c] 31) := by
  go_enter Tryd.func63, Tryd.ntmps63
  go_wp2
  go_ret
  exact ⟨rfl, rfl⟩
end Go.Proofs.YtefpigakhhfcaaaDoor
end
