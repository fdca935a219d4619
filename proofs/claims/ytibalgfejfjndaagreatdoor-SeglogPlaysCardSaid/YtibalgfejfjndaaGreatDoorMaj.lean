import Derived.Test.YtibalgfejfjndaaGreatDoorMai
import Derived.Test.YtibalgfejfjndaaGreatDoorMah
/-! frame.take, frame.Take. -/
section
set_option linter.unusedVariables false
set_option linter.unusedSimpArgs false
namespace Go.Proofs.YtibalgfejfjndaaGreatDoor
open Go.RowKit

/-- The number that bytes are, the highest first. -/
def takeV (b : List UInt8) : Nat := b.foldl (fun v c => v * 256 + c.toNat) 0
theorem takeV_snoc (l : List UInt8) (x : UInt8) : takeV (l ++ [x]) = takeV l * 256 + x.toNat := by simp [takeV]
theorem takeV_take (xs : List UInt8) (k : Nat) (x : UInt8) (h : xs[k]? = some x) : takeV (xs.take (k + 1)) = takeV (xs.take k) * 256 + x.toNat := by
  rw [List.take_add_one, h, Option.toList_some, takeV_snoc]
theorem takeV_lt (xs : List UInt8) (k : Nat) : takeV (xs.take k) < 256 ^ k := by
  induction k with
  | zero => simp [takeV]
  | succ k ih =>
    rcases Nat.lt_or_ge k xs.length with h | h
    · rw [takeV_take xs k _ (List.getElem?_eq_getElem h), Nat.pow_succ]
      have := (xs[k]).toNat_lt
      omega
    · rw [List.take_of_length_le (by omega)]
      rw [List.take_of_length_le h] at ih
      rw [Nat.pow_succ]; omega
theorem takeV_pre (k v j : Nat) (hj : j ≤ k) : takeV ((List.range j).map (numAt k v)) = v / 2 ^ (8 * (k - j)) % 2 ^ (8 * j) := by
  induction j with
  | zero => simp [takeV, Nat.mod_one]
  | succ j ih =>
    rw [List.range_succ, List.map_append, List.map_cons, List.map_nil, takeV_snoc, ih (by omega)]
    unfold numAt
    obtain ⟨m, hm⟩ : ∃ m, m = 8 * (k - 1 - j) := ⟨_, rfl⟩
    rw [← hm, show 8 * (k - j) = m + 8 by omega, show 8 * (k - (j + 1)) = m by omega, Nat.pow_add, ← Nat.div_div_eq_div_mul, show 8 * (j + 1) = 8 + 8 * j by omega, Nat.pow_add, Nat.mod_mul, UInt8.toNat_ofNat', show (2 : Nat) ^ 8 = 256 from rfl]
    omega
theorem takeV_num (k v : Nat) (h : v < 2 ^ (8 * k)) : takeV (numN k v) = v := by
  unfold numN
  rw [takeV_pre k v k (Nat.le_refl _), Nat.sub_self, Nat.mul_zero, Nat.pow_zero, Nat.div_one, Nat.mod_eq_of_lt h]
theorem orAdd' (x y z : Nat) (hz : z = y * 256) (hx : x < 256) (h : z + x < 18446744073709551616) : bits .or .u64 (z : Int) (x : Int) = ((z + x : Nat) : Int) := by
  have h1 : (BitVec.ofInt 64 (x : Int)).toNat = x := by
    rw [BitVec.ofInt_natCast, BitVec.toNat_ofNat]; exact Nat.mod_eq_of_lt (by omega)
  have h2 : (BitVec.ofInt 64 (z : Int)).toNat = z := by
    rw [BitVec.ofInt_natCast, BitVec.toNat_ofNat]; exact Nat.mod_eq_of_lt (by omega)
  have h3 : z ||| x = z + x := by
    subst hz
    have := Nat.two_pow_add_eq_or_of_lt (i := 8) (b := x) hx y
    rw [Nat.mul_comm y, show (256 : Nat) = 2 ^ 8 from rfl, ← this]
  show IntKind.u64.wrap ((BitVec.ofInt 64 (z : Int) ||| BitVec.ofInt 64 (x : Int)).toNat : Int) = _
  rw [BitVec.toNat_or, h1, h2, h3, IntKind.wrap_u64]
  omega
set_option maxRecDepth 100000 in
set_option maxHeartbeats 4000000 in
theorem takeN_any (w : World) (A : Option Addr) (n c : Nat) (xs : List UInt8) (hn : n = xs.length) (h8 : n ≤ 8) (h : Bs w A xs) : Calls Tryz.prog 83 #[.slice A n c] w fun e w' => e = .returned (.int .u64 (takeV xs : Nat)) ∧ w' = w := by
  have H := Lib.hid h
  have Hn := Lib.hid hn
  have hn8 : (n : Int) ≤ 8 := by omega
  clear h hn
  go_enter Tryz.func83, Tryz.ntmps83
  go_wp2_with fail
  go_loopw [3, 8] (fun v i wr => ∃ j : Nat, j ≤ n ∧ i = .int .i64 (j : Nat) ∧ v = .int .u64 (takeV (xs.take j) : Nat) ∧ wr = w) (fun _ i _ => n - (intOf i).toNat)
  case atStart => exact ⟨0, by omega, rfl, rfl, rfl⟩
  case round =>
    obtain ⟨j, hj, rfl, rfl, rfl⟩ := hrel
    obtain ⟨v, hv⟩ : ∃ v, v = takeV (xs.take j) := ⟨_, rfl⟩
    rw [← hv]
    have Hv := Lib.hid hv
    by_cases hlt : j < n
    · have hj9 : (j : Int) < (n : Int) := by omega
      obtain ⟨x, hx⟩ : ∃ x, xs[j]? = some x := ⟨_, List.getElem?_eq_getElem (by have := Hn.out; omega)⟩
      obtain ⟨ad, rfl⟩ : ∃ ad, A = some ad := by
        cases A with
        | some ad => exact ⟨ad, rfl⟩
        | none => rw [H.out.1 rfl] at hx; simp at hx
      have dx := bs_at H.out hx
      have Ht := Lib.hid (takeV_take xs j x hx)
      have hv7 : v < 72057594037927936 := by
        have h1 := takeV_lt xs j
        have h2 : 256 ^ j ≤ 256 ^ 7 := Nat.pow_le_pow_right (by omega) (by omega)
        rw [← hv] at h1
        have h3 : (256 : Nat) ^ 7 = 72057594037927936 := by decide
        omega
      have hx256 := x.toNat_lt
      obtain ⟨y, hy⟩ : ∃ y, y = x.toNat := ⟨_, rfl⟩
      rw [← hy] at dx Ht hx256
      obtain ⟨z, hz⟩ : ∃ z, z = v * 256 := ⟨_, rfl⟩
      have hsh : Op.shift .shl .u64 (v : Int) .u64 (8 : Int) = pure (.int .u64 (z : Nat)) := by
        rw [shift_shl_any _ _ _ _ (by omega)]
        have h9 : ((v : Int)) * 2 ^ min ((8 : Int)).toNat 64 = (z : Int) := by rw [show min ((8 : Int)).toNat 64 = 8 from rfl, hz]; omega
        rw [show IntKind.u64.bits = 64 from rfl, h9, IntKind.wrap_u64]
        congr 2
        omega
      obtain ⟨t, htt⟩ : ∃ t, t = z + y := ⟨_, rfl⟩
      have hor : bits .or .u64 (z : Int) (y : Int) = (t : Int) := by
        rw [orAdd' y v z hz (by omega) (by omega), htt]
      have HT : Hid (t = takeV (xs.take (j + 1))) := Lib.hid (by rw [Ht.out, htt, hz, Hv.out])
      have hy9 : (y : Int) < 256 := by omega
      clear hv hx hy hz htt hv7
      go_wp2
      go_roundw
      case rel => exact ⟨j + 1, by omega, by go_num, by rw [← HT.out], trivial⟩
      case measure => simp [intOf]; omega
    · obtain rfl : j = n := by omega
      have hV : v = takeV xs := by rw [Hv.out, List.take_of_length_le (by have := Hn.out; omega)]
      clear hv
      go_wp2
      go_ret
      subst hV
      exact ⟨rfl, rfl⟩
end Go.Proofs.YtibalgfejfjndaaGreatDoor
end

/-! frame.Take: too short; a whole frame. -/
section
set_option linter.unusedVariables false
set_option linter.unusedSimpArgs false
namespace Go.Proofs.YtibalgfejfjndaaGreatDoor
open Go.RowKit

/-- A structure in a cell, and two numbers. -/
theorem results_row_tmp2 {P : Program} {fn : Func} {p u z : Tmp} {ty : TypeId} (h : fn.results = #[.cell p ty, .tmp u, .tmp z]) (tmps : Array Value) (w : World) (g : Nat) (t : TypeId) (cs : Array Value) (fr : Nat × Nat) (d : TypeDesc)
    (hp : tmps.getD p undef = .pointer (some ⟨g, 0, none⟩)) (hg : w.heap[g]? = some (.cells cs t fr))
    (hu : P.underlying ty = some d) (hd : (match d with | .struct _ | .array _ _ => true | _ => false) = true) (hi : (P.info? ty).map (·.size) = some cs.size) :
    (results fn tmps).run P w = .ok (.tuple #[.agg cs, tmps.getD u undef, tmps.getD z undef]) w := by
  have hp' : tmps[p]?.getD undef = .pointer (some ⟨g, 0, none⟩) := by simpa using hp
  simp [results, h, hp', asAddr, Go.run_loadVar_row w g t ty cs fr d hg hu hd hi]
theorem infoR2 : (Tryz.prog.info? 63).map (·.size) = some 2 := by kernel_rfl
theorem build_rec0 (W : World) : (Instr.build 63 #[]).run Tryz.prog W = .ok (.agg #[.int .u64 0, .slice none 0 0]) W := by kernel_rfl
/-- A record's block. -/
def BoxR (W : World) (D : Nat) (o : Nat) (v : Value) : Prop := W.heap[D]? = some (.cells #[.int .u64 (o : Nat), v] 63 (0, 0))
section
variable {W W' : World} {D o : Nat} {v : Value}
theorem BoxR.c0 (h : BoxR W D o v) : W.cell? ⟨D, 0, none⟩ = some (.int .u64 (o : Nat)) := by simp [World.cell?, show W.heap[D]? = _ from h]
theorem BoxR.c1 (h : BoxR W D o v) : W.cell? ⟨D, 1, none⟩ = some v := by simp [World.cell?, show W.heap[D]? = _ from h]
theorem BoxR.fz (h : BoxR W D o v) (i : Nat) : W.frozen? ⟨D, i, none⟩ = false := by simp [World.frozen?, show W.heap[D]? = _ from h]
theorem BoxR.kept {S : Nat → Prop} (h : BoxR W D o v) (hk : Kept S W W') (hS : ¬ S D) : BoxR W' D o v := hk.heap h hS
theorem BoxR.put (h : BoxR W D o v) (o' : Nat) (v' : Value) : BoxR ((W.setCell ⟨D, 0, none⟩ (.int .u64 (o' : Nat))).setCell ⟨D, 1, none⟩ v') D o' v' := by
  unfold BoxR World.setCell; simp only [Array.getElem?_modify, if_true, show W.heap[D]? = _ from h]; rfl
end
def TakeShort (w : World) (e : Ending) (w' : World) : Prop := e = .returned (.tuple #[.agg #[.int .u64 0, .slice none 0 0], .int .i64 0, .int .i64 3]) ∧ Kept (fun _ => False) w w'
set_option maxRecDepth 100000 in
set_option maxHeartbeats 4000000 in
theorem fTake_less (w : World) (A : Option Addr) (n c : Nat) (h : n < 16) : Calls Tryz.prog 65 #[.slice A n c] w (TakeShort w) := by
  have hn9 : (n : Int) < 16 := by omega
  have hb := fun W => build_rec0 W
  go_enter Tryz.func65, Tryz.ntmps65
  go_upto_region 1 with fail
  obtain ⟨D, hD⟩ : ∃ D, D = w.heap.size := ⟨_, rfl⟩
  obtain ⟨w0, hw0⟩ : ∃ w0, w0 = w.alloc (.cells #[.int .u64 0, .slice none 0 0] 63) := ⟨_, rfl⟩
  have HB : Hid (BoxR w0 D 0 (.slice none 0 0)) := Lib.hid (by rw [hw0, hD]; exact heap_alloc_new w _)
  have HK : Hid (Kept (fun _ => False) w w0) := Lib.hid (by rw [hw0]; exact (Kept.refl _ w).alloc _)
  have HD := Lib.hid hD
  rw [← hw0, ← hD]
  clear hw0 hD h
  have c0 := HB.out.c0
  have c1 := HB.out.c1
  have f0 := HB.out.fz
  go_wp2
  refine bodyPost_ret (v := .tuple #[.agg #[.int .u64 0, .slice none 0 0], .int .i64 0, .int .i64 3]) (results_row_tmp2 (u := 3) (z := 4) rfl _ _ D 63 _ (0, 0) _ rfl (HB.out.put 0 (.slice none 0 0)) Tryz.underlying63 rfl infoR2) rfl ⟨rfl, ?_⟩
  exact HK.out.trans ((kF w0 D 0 _).trans' (kF _ D 1 _)) fun i hi e => by have := HD.out; omega
theorem slice_toB (W : World) (A : Option Addr) (l n c : Nat) (hn : n ≤ c) : (Instr.slice 30 (.slice A l c) none (some (.int .i64 n)) none).run Tryz.prog W = .ok (.slice A n c) W := by
  have hsz : ∀ W, (sizeOf 5).run Tryz.prog W = .ok 1 W := fun W => by kernel_rfl
  have h1 : (0 : Int) ≤ (n : Int) ∧ (n : Int) ≤ (c : Int) := by omega
  simp only [Instr.slice, Sem.run_bind, run_underlying Tryz.underlying30, Result.andThen, Instr.sliceBounds, Instr.sliceBound, asIntOf, Sem.run_pure, if_pos h1, hsz, Int.toNat_natCast, Nat.zero_mul, Nat.sub_zero]
  split
  · rfl
  · rw [add0 A]
/-- The first four bytes. -/
theorem fTake_len {w : World} {A : Option Addr} {n c : Nat} {off : Nat} {d b : List UInt8} (hn : n = b.length) (hb : Bs w A b) (hd : d.length ≤ 32768) (h16 : 16 ≤ n) (hp : b.take 4 = (frameB off d).take 4) : ∀ W, Kept (fun _ => False) w W → Calls Tryz.prog 83 #[.slice A 4 c] W fun e w' => e = .returned (.int .u64 (d.length : Nat)) ∧ w' = W := by
  intro W hk
  have h4 : b.take 4 = numN 4 d.length := by rw [hp, frameB]; exact List.take_left' (numN_len _ _)
  have h1 := takeN_any W A 4 c (b.take 4) (by rw [List.length_take]; omega) (by omega) (bs_take (hb.kept hk (by simp)) 4)
  rwa [h4, takeV_num 4 d.length (by show _ < 2 ^ 32; omega)] at h1
set_option maxRecDepth 100000 in
set_option maxHeartbeats 4000000 in
theorem fTake_part (w : World) (A : Option Addr) (n c : Nat) (off : Nat) (d b : List UInt8) (hn : n = b.length) (hc : n ≤ c) (hb : Bs w A b) (hd : d.length ≤ 32768) (h16 : 16 ≤ n) (hlt : n < (frameB off d).length) (hp : b = (frameB off d).take n) : Calls Tryz.prog 65 #[.slice A n c] w (TakeShort w) := by
  have hbu := fun W => build_rec0 W
  have hs4 := fun W => slice_toB W A n 4 c (by omega)
  have HT := Lib.hid (fTake_len (c := c) hn hb hd h16 (by rw [hp, List.take_take, show min 4 n = 4 by omega]))
  rw [frameB_len] at hlt
  obtain ⟨m, hm⟩ : ∃ m, m = d.length := ⟨_, rfl⟩
  rw [← hm] at HT hlt hd
  have hn9 : ¬ (n : Int) < 16 := by omega
  have hm1 : ¬ (32768 : Int) < (m : Int) := by omega
  have hm2 : (n : Int) - 16 < (m : Int) := by omega
  have hn8 : (n : Int) ≤ 40000 := by omega
  have hc4 : (4 : Int) ≤ (c : Int) := by omega
  have hw : IntKind.u64.wrap ((n : Int) - 16) = (n : Int) - 16 := by rw [IntKind.wrap_u64]; omega
  clear hn hb hp hm hlt h16 hc hd
  go_enter Tryz.func65, Tryz.ntmps65
  go_upto_region 1 with fail
  obtain ⟨D, hD⟩ : ∃ D, D = w.heap.size := ⟨_, rfl⟩
  obtain ⟨w0, hw0⟩ : ∃ w0, w0 = w.alloc (.cells #[.int .u64 0, .slice none 0 0] 63) := ⟨_, rfl⟩
  have HB : Hid (BoxR w0 D 0 (.slice none 0 0)) := Lib.hid (by rw [hw0, hD]; exact heap_alloc_new w _)
  have HK : Hid (Kept (fun _ => False) w w0) := Lib.hid (by rw [hw0]; exact (Kept.refl _ w).alloc _)
  have HD := Lib.hid hD
  rw [← hw0, ← hD]
  clear hw0 hD
  have c0 := HB.out.c0
  have c1 := HB.out.c1
  have f0 := HB.out.fz
  go_wp2_with (go_at_call 83; refine (HT.out w0 HK.out).mono ?_; rintro e w0 ⟨rfl, rfl⟩)
  refine bodyPost_ret (v := .tuple #[.agg #[.int .u64 0, .slice none 0 0], .int .i64 0, .int .i64 3]) (results_row_tmp2 (u := 3) (z := 4) rfl _ _ D 63 _ (0, 0) _ rfl (HB.out.put 0 (.slice none 0 0)) Tryz.underlying63 rfl infoR2) rfl ⟨rfl, ?_⟩
  exact HK.out.trans ((kF w0 D 0 _).trans' (kF _ D 1 _)) fun i hi e => by have := HD.out; omega
theorem build_rec (W : World) (o : Int) (v : Value) (A : Option Addr) (n c : Nat) (hv : v = .slice A n c) : (Instr.build 63 #[(0, .int .u64 o), (1, v)]).run Tryz.prog W = .ok (.agg #[.int .u64 o, v]) W := by subst hv; kernel_rfl
def TakeOk (w : World) (off : Nat) (d : List UInt8) (e : Ending) (w' : World) : Prop := ∃ V, e = .returned (.tuple #[.agg #[.int .u64 (off : Nat), V], .int .i64 ((16 + d.length : Nat) : Int), .int .i64 0]) ∧ w'.ownsRow w.heap.size 5 1 V d.length (d.map bv) ∧ Kept (fun _ => False) w w'
set_option maxRecDepth 100000 in
set_option maxHeartbeats 8000000 in
theorem fTake_ok (w : World) (A : Option Addr) (n c : Nat) (off : Nat) (d post b : List UInt8) (hn : n = b.length) (hn9 : n ≤ 1000000000) (hc : n ≤ c) (hA : A = none → c = 0) (hb : Bs w A b) (hd : d.length ≤ 32768) (ho : off < 18446744073709551616) (hp : b = frameB off d ++ post) : Calls Tryz.prog 65 #[.slice A n c] w (TakeOk w off d) := by
  have hbu := fun W => build_rec0 W
  have hl := frameB_len off d
  have hln : (frameB off d).length ≤ n := by rw [hn, hp, List.length_append]; omega
  have HT := Lib.hid (fTake_len (c := c) hn hb hd (by omega) (by rw [hp, List.take_append_of_le_length (by omega)]))
  obtain ⟨m, hm⟩ : ∃ m, m = d.length := ⟨_, rfl⟩
  obtain ⟨en, hen⟩ : ∃ en, en = 16 + m := ⟨_, rfl⟩
  have hs4 := fun W => slice_toB W A n 4 c (by omega)
  obtain ⟨A2, hs2, hb2, hA2, -⟩ := midB_form A n 8 en c b hn (by omega) (by omega) hc hA
  obtain ⟨A3, hs3, hb3, hA3, -⟩ := midB_form A n 4 8 c b hn (by omega) (by omega) hc hA
  obtain ⟨A4, hs5, hb4, hA4, -⟩ := midB_form A n 8 16 c b hn (by omega) (by omega) hc hA
  obtain ⟨A5, hs6, hb5, hA5, -⟩ := midB_form A n 16 en c b hn (by omega) (by omega) hc hA
  have e2 : (b.drop 8).take (en - 8) = restB off d := by
    rw [hp, frameB, List.append_assoc, List.append_assoc, ← List.append_assoc (numN 4 _), List.drop_left' (by simp [numN_len]), List.take_left' (by rw [restB_len]; omega)]
  have e3 : (b.drop 4).take (8 - 4) = numN 4 (crcN (restB off d)) := by
    rw [hp, frameB, List.append_assoc, List.append_assoc, List.drop_left' (numN_len _ _), List.take_left' (numN_len _ _)]
  have e4 : (b.drop 8).take (16 - 8) = numN 8 off := by
    rw [hp, frameB, List.append_assoc, List.append_assoc, ← List.append_assoc (numN 4 _), List.drop_left' (by simp [numN_len]), restB, List.append_assoc, List.take_left' (numN_len _ _)]
  have e5 : (b.drop 16).take (en - 16) = d := by
    have e6 : frameB off d ++ post = (numN 4 d.length ++ numN 4 (crcN (restB off d)) ++ numN 8 off) ++ (d ++ post) := by
      rw [show frameB off d = numN 4 d.length ++ (numN 4 (crcN (restB off d)) ++ (numN 8 off ++ d)) from rfl]
      simp only [List.append_assoc]
    rw [hp, e6, List.drop_left' (by simp [numN_len]), List.take_left' (by omega)]
  rw [e2] at hb2; rw [e3] at hb3; rw [e4] at hb4; rw [e5] at hb5
  obtain ⟨c2, hc2⟩ : ∃ c2, c2 = c - 8 := ⟨_, rfl⟩
  obtain ⟨c3, hc3⟩ : ∃ c3, c3 = c - 4 := ⟨_, rfl⟩
  obtain ⟨c5, hc5⟩ : ∃ c5, c5 = c - 16 := ⟨_, rfl⟩
  obtain ⟨n2, hn2⟩ : ∃ n2, n2 = en - 8 := ⟨_, rfl⟩
  rw [← hc2, ← hn2] at hs2
  rw [← hc2] at hs5 hA2 hA4
  rw [← hc3] at hs3 hA3
  rw [← hc5, show en - 16 = m by omega] at hs6
  rw [← hc5] at hA5
  rw [← hm] at HT
  have hcr : crcN (restB off d) < 4294967296 := crcN_lt _
  obtain ⟨cr, hcre⟩ : ∃ cr, cr = crcN (restB off d) := ⟨_, rfl⟩
  have HC : Hid (∀ W, Kept (fun _ => False) w W → Calls Tryz.prog 68 #[.slice A2 n2 c2] W fun e w' => e = .returned (.int .u32 (cr : Nat)) ∧ Kept (fun _ => False) W w') := Lib.hid fun W hk => by
    rw [hcre]; exact crcSum_any W A2 n2 c2 _ (by rw [restB_len]; omega) (by omega) (hb2 W (hb.kept hk (by simp)))
  have HT3 : Hid (∀ W, Kept (fun _ => False) w W → Calls Tryz.prog 83 #[.slice A3 4 c3] W fun e w' => e = .returned (.int .u64 (cr : Nat)) ∧ w' = W) := Lib.hid fun W hk => by
    have h1 := takeN_any W A3 4 c3 _ (by rw [numN_len]) (by omega) (hb3 W (hb.kept hk (by simp)))
    rwa [takeV_num 4 _ (by show _ < 2 ^ 32; omega), ← hcre] at h1
  have HT4 : Hid (∀ W, Kept (fun _ => False) w W → Calls Tryz.prog 83 #[.slice A4 8 c2] W fun e w' => e = .returned (.int .u64 (off : Nat)) ∧ w' = W) := Lib.hid fun W hk => by
    have h1 := takeN_any W A4 8 c2 _ (by rw [numN_len]) (by omega) (hb4 W (hb.kept hk (by simp)))
    rwa [takeV_num 8 off (by show _ < 2 ^ 64; omega)] at h1
  have HCl : Hid (∀ W, Kept (fun _ => False) w W → Calls Tryz.prog 39 #[.slice A5 m c5] W (ClonePost W d)) := Lib.hid fun W hk => clone_any W A5 m c5 d hm (by omega) (hb5 W (hb.kept hk (by simp))) (fun e => by have := hA5 e; omega)
  have hn9' : ¬ (n : Int) < 16 := by omega
  have hm1 : ¬ (32768 : Int) < (m : Int) := by omega
  have hm2 : ¬ (n : Int) - 16 < (m : Int) := by omega
  have hn8 : (n : Int) ≤ 1000000000 := by omega
  have hc4 : (4 : Int) ≤ (c : Int) := by omega
  have hw : IntKind.u64.wrap ((n : Int) - 16) = (n : Int) - 16 := by rw [IntKind.wrap_u64]; omega
  have hw2 : IntKind.i64.wrap (16 + (m : Int)) = (en : Int) := by rw [IntKind.wrap_i64]; omega
  have hw3 : IntKind.i64.wrap (m : Int) = (m : Int) := by rw [IntKind.wrap_i64]; omega
  have hw4 : IntKind.u64.wrap (cr : Int) = (cr : Int) := by rw [IntKind.wrap_u64]; omega
  have Hen := Lib.hid (And.intro hen hm)
  have hs2' : ∀ W, (Instr.slice 30 (.slice A n c) (some (.int .i64 8)) (some (.int .i64 (en : Nat))) none).run Tryz.prog W = .ok (.slice A2 n2 c2) W := hs2
  have hs3' : ∀ W, (Instr.slice 30 (.slice A n c) (some (.int .i64 4)) (some (.int .i64 8)) none).run Tryz.prog W = .ok (.slice A3 4 c3) W := hs3
  have hs5' : ∀ W, (Instr.slice 30 (.slice A n c) (some (.int .i64 8)) (some (.int .i64 16)) none).run Tryz.prog W = .ok (.slice A4 8 c2) W := hs5
  have hs6' : ∀ W, (Instr.slice 30 (.slice A n c) (some (.int .i64 16)) (some (.int .i64 (en : Nat))) none).run Tryz.prog W = .ok (.slice A5 m c5) W := hs6
  clear hn hb hp hm hln hl hc hd hb2 hb3 hb4 hb5 e2 e3 e4 e5 hA2 hA3 hA4 hA5 hc2 hc3 hc5 hn2 hen hcr hcre hA ho hs2 hs3 hs5 hs6
  go_enter Tryz.func65, Tryz.ntmps65
  go_upto_region 1 with fail
  obtain ⟨D, hD⟩ : ∃ D, D = w.heap.size := ⟨_, rfl⟩
  obtain ⟨w0, hw0⟩ : ∃ w0, w0 = w.alloc (.cells #[.int .u64 0, .slice none 0 0] 63) := ⟨_, rfl⟩
  have HB : Hid (BoxR w0 D 0 (.slice none 0 0)) := Lib.hid (by rw [hw0, hD]; exact heap_alloc_new w _)
  have HK : Hid (Kept (fun _ => False) w w0) := Lib.hid (by rw [hw0]; exact (Kept.refl _ w).alloc _)
  have HD := Lib.hid hD
  rw [← hw0, ← hD]
  clear hw0 hD
  go_upto_region 9 with (go_at_call 83; refine (HT.out w0 HK.out).mono ?_; rintro e w0 ⟨rfl, rfl⟩)
  go_region_held3 (fun _ => True) (first | assumption | trivial | simp [*]) (first
    | (go_at_call 68; refine (HC.out _ HK.out.drew).mono ?_; rintro e w1 ⟨rfl, hk1⟩; have HK1 := Lib.hid (HK.out.drew.trans' hk1); have HKa := Lib.hid ((Kept.refl (fun _ => False) w0).drew.trans' hk1); clear hk1)
    | (go_at_call 83; refine (HT3.out w1 HK1.out).mono ?_; rintro e w1 ⟨rfl, rfl⟩))
  have hbr : ∀ (W : World) A9 c9, (Instr.build 63 #[(0, .int .u64 (off : Nat)), (1, .slice A9 d.length c9)]).run Tryz.prog W = .ok (.agg #[.int .u64 (off : Nat), .slice A9 d.length c9]) W := fun W A9 c9 => build_rec W _ _ A9 d.length c9 rfl
  go_upto_region 11 with fail
  go_region_held3 (fun _ => True) (first | assumption | trivial | simp [*]) (first
    | (go_at_call 83; refine (HT4.out w1.drew HK1.out.drew).mono ?_; rintro e w2 ⟨rfl, hw2⟩; have HK2 : Hid (Kept (fun _ => False) w w2) := Lib.hid (by rw [hw2]; exact HK1.out.drew); have HKb : Hid (Kept (fun _ => False) w0 w2) := Lib.hid (by rw [hw2]; exact HKa.out.drew); clear hw2)
    | (go_at_call 39; refine (HCl.out w2 HK2.out).mono ?_; rintro e w3 hP; obtain ⟨A9, c9, rfl, ha, -, -⟩ := ClonePost.acc hP; have HA := Lib.hid ha; have HB3 := Lib.hid ((HB.out.kept HKb.out (by simp)).kept ha.2 (by simp)); have c0 := HB3.out.c0; have c1 := HB3.out.c1; have f0 := HB3.out.fz; have hbr9 := fun W => hbr W A9 c9; clear hP ha))
  go_wp2
  have hE := Hen.out
  refine bodyPost_ret (v := .tuple #[.agg #[.int .u64 (off : Nat), .slice A9 d.length c9], .int .i64 (en : Nat), .int .i64 0]) (results_row_tmp2 (u := 3) (z := 4) rfl _ _ D 63 _ (0, 0) _ rfl (HB3.out.put off _) Tryz.underlying63 rfl infoR2) rfl ⟨.slice A9 d.length c9, by rw [show 16 + d.length = en by omega], ?_, ?_⟩
  · have h1 := own_low HA.out.1 HK2.out.size
    refine own_kept h1 ((kF w3 D 0 _).trans' (kF _ D 1 _)) fun k e e2 => ?_
    have h2 := own_ge HA.out.1 k e
    have h3 := HKb.out.size
    have h4 : D < w0.heap.size := (Array.getElem?_eq_some_iff.1 (show w0.heap[D]? = _ from HB.out)).1
    omega
  · exact (HK2.out.trans' HA.out.2).trans ((kF w3 D 0 _).trans' (kF _ D 1 _)) fun i hi e => by have := HD.out; omega
end Go.Proofs.YtibalgfejfjndaaGreatDoor
end

/-! courantref22.Put. -/
section
set_option linter.unusedVariables false
set_option linter.unusedSimpArgs false
namespace Go.Proofs.YtibalgfejfjndaaGreatDoor
open Go.RowKit

theorem Core_def (p : PV) : p.core = (p.key, p.b, p.gone) := rfl
end Go.Proofs.YtibalgfejfjndaaGreatDoor
end

/-! compact: how a store lies; met, ready, Size, All; what a nil store answers. -/
section
set_option linter.unusedVariables false
set_option linter.unusedSimpArgs false
namespace Go.Proofs.YtibalgfejfjndaaGreatDoor
open Go.RowKit

section
variable {w : World} {T F : Nat} {nm : ByteArray} {v : Value} {next size : Nat} {dead : Bool}
end
end Go.Proofs.YtibalgfejfjndaaGreatDoor
end

/-! compact.Open: a name that may not be; no file yet. -/
section
set_option linter.unusedVariables false
set_option linter.unusedSimpArgs false
namespace Go.Proofs.YtibalgfejfjndaaGreatDoor
open Go.RowKit

def dotK : ByteArray := ⟨#[46, 107]⟩
def dotT : ByteArray := ⟨#[46, 116]⟩
theorem size_dotK (nm : ByteArray) : (nm ++ dotK).size = nm.size + 2 := by rw [ByteArray.size_append]; rfl
end Go.Proofs.YtibalgfejfjndaaGreatDoor
end

/-! compact: a store with its files; what leaves it as it is. -/
section
set_option linter.unusedVariables false
set_option linter.unusedSimpArgs false
namespace Go.Proofs.YtibalgfejfjndaaGreatDoor
open Go.RowKit

/-- No file, or one of that name, with those bytes. -/
def OneK (ps : List PF) (nk : ByteArray) (d : List UInt8) (made : Bool) : Prop := (ps = [] ∧ d = [] ∧ made = false) ∨ ∃ p, ps = [p] ∧ p.name = nk ∧ p.b = d ∧ made = true
theorem OneK.used {ps : List PF} {nk : ByteArray} {d : List UInt8} {m : Bool} (h : OneK ps nk d m) : usedL ps = d.length := by
  rcases h with ⟨rfl, rfl, _⟩ | ⟨p, rfl, _, rfl, _⟩ <;> simp [usedL]
/-- Pairs that lie below L. -/
def PsL (Z : Nat → Prop) (w : World) (B : Option Addr) (ms : List PV) : Prop := ∀ W, Kept (fun k => Z k) w W → PsAt W B ms
theorem PsL.stay {Z : Nat → Prop} {w w' : World} {B : Option Addr} {ms : List PV} (h : PsL Z w B ms) (hk : Kept (fun k => Z k) w w') : PsL Z w' B ms := fun W hW => h W (hk.trans' hW)
section
variable {Z : Nat → Prop} {w w' : World} {T F M : Nat} {nm : ByteArray} {ps ps' : List PF} {clock clock' : Nat} {lim : Int} {v : Value} {qs : List PV} {next size : Nat}
end
set_option maxHeartbeats 1000000 in
theorem appendK (W : World) (F M : Nat) (ps : List PF) (clock : Nat) (lim : Int) (nk : ByteArray) (d : List UInt8) (made : Bool) (A : Option Addr) (n c : Nat) (xs : List UInt8) (h : FilesAt W F M ps clock lim 0 false) (ho : OneK ps nk d made) (hs : nk.size ≤ 140737488355328) (hf : fullB nk = true)
    (hx : Bs W A xs) (hn : n = xs.length) (hA : A = none → c = 0) (hfit : (xs.length : Int) + (d.length : Int) ≤ lim) (hM : ∀ ad, A = some ad → xs = [] ∨ ad.block ≠ M) :
    Calls Tryz.prog 46 #[.pointer (some ⟨F, 0, none⟩), .string nk, .slice A n c] W fun e w' => e = .returned (.int .i64 0) ∧ ∃ ps' clock', Went W F M ps ps' clock' lim 0 false w' ∧ OneK ps' nk (d ++ xs) true := by
  have hl := h.lim0.2
  have hu := ho.used
  rcases ho with ⟨rfl, rfl, _⟩ | ⟨p, rfl, hp, rfl, _⟩
  · refine (append_new nk A n c W F M lim 0 [] clock xs (by simp) hs hf h (by rw [hu]; simp) hx hn hA (by unfold Fits; rw [hu]; simp at hfit ⊢; right; omega) hM).mono ?_
    rintro e w' ⟨B, u, rfl, hw⟩
    exact ⟨rfl, _, _, hw, .inr ⟨_, rfl, rfl, by simp, rfl⟩⟩
  · have := append_old A n c W F M lim 0 [] [] p clock xs (by rw [hp]; exact hs) (by rw [hp]; exact hf) h (by show usedL [p] ≤ _; rw [hu]; omega) hx hn hA (by show Fits lim [p] n; unfold Fits; rw [hu]; right; omega)
    rw [hp] at this
    refine this.mono ?_
    rintro e w' ⟨u, rfl, hw⟩
    exact ⟨rfl, _, _, hw, .inr ⟨_, rfl, rfl, rfl, rfl⟩⟩
end Go.Proofs.YtibalgfejfjndaaGreatDoor
end

/-! compact.Put, where there is room. -/
section
set_option linter.unusedVariables false
set_option linter.unusedSimpArgs false
namespace Go.Proofs.YtibalgfejfjndaaGreatDoor
open Go.RowKit

set_option maxHeartbeats 1000000 in
theorem syncK (W : World) (F M : Nat) (ps : List PF) (clock : Nat) (lim : Int) (nk : ByteArray) (d : List UInt8) (h : FilesAt W F M ps clock lim 0 false) (ho : OneK ps nk d true) :
    Calls Tryz.prog 50 #[.pointer (some ⟨F, 0, none⟩), .string nk] W fun e w' => e = .returned (.int .i64 0) ∧ ∃ ps', Went W F M ps ps' clock lim 0 false w' ∧ OneK ps' nk d true := by
  rcases ho with ⟨_, _, h0⟩ | ⟨p, rfl, hp, rfl, _⟩
  · cases h0
  · have := sync_ok W F M lim 0 [] [] p clock (by decide) h
    rw [hp] at this
    refine this.mono ?_
    rintro e w' ⟨rfl, hw⟩
    exact ⟨rfl, _, hw, .inr ⟨_, rfl, rfl, rfl, rfl⟩⟩
end Go.Proofs.YtibalgfejfjndaaGreatDoor
end

/-! compact.All; courantlaw23.awake. -/
section
set_option linter.unusedVariables false
set_option linter.unusedSimpArgs false
namespace Go.Proofs.YtibalgfejfjndaaGreatDoor
open Go.RowKit

end Go.Proofs.YtibalgfejfjndaaGreatDoor
end

/-! courantlaw23.awake. -/
section
set_option linter.unusedVariables false
set_option linter.unusedSimpArgs false
namespace Go.Proofs.YtibalgfejfjndaaGreatDoor
open Go.RowKit

def nA : ByteArray := ⟨#[97]⟩
theorem nA_full : fullB (nA ++ dotK) = true := by kernel_rfl
theorem one_len (A : Option Addr) (c : Nat) : (bytesP [⟨⟨#[107]⟩, [1], false, A, c⟩]).length = 6 := rfl
theorem bound1000 : boundI 1000 = 1000 := by decide
theorem one_core (A : Option Addr) (c : Nat) : putC (([] : List PV).map PV.core) ([(⟨⟨#[107]⟩, [1], false, A, c⟩ : PV)].map PV.core) = [(⟨#[107]⟩, [1], false)] := rfl
theorem core_one {qs : List PV} {c : Core} (h : qs.map PV.core = [c]) : qs.length = 1 ∧ ∀ q ∈ qs, q.core = c := by
  have h1 := congrArg List.length h
  simp at h1
  refine ⟨h1, fun q hq => ?_⟩
  have : q.core ∈ qs.map PV.core := List.mem_map_of_mem hq
  rw [h] at this
  simpa using this
end Go.Proofs.YtibalgfejfjndaaGreatDoor
end

/-! compact.frames, plain: pairs cut into frames; parts of slices of pairs; slices of bytes of a call's own. -/
section
set_option linter.unusedVariables false
set_option linter.unusedSimpArgs false
namespace Go.Proofs.YtibalgfejfjndaaGreatDoor
open Go.RowKit

theorem numLe1 (k v : Nat) (hv : v < 128) : (numF k v).length = 1 := by
  cases k with
  | zero => rfl
  | succ k => simp [numF, hv]
theorem numLe2 (k v : Nat) (hv : v < 16384) : (numF k v).length ≤ 2 := by
  cases k with
  | zero => simp [numF]
  | succ k =>
    simp only [numF]
    split
    · simp
    · simp only [List.length_cons]
      have := numLe1 k (v / 128) (by omega)
      omega
theorem zig2 {n : Nat} (h : n ≤ 8000) : 1 ≤ (zigB n).length ∧ (zigB n).length ≤ 2 := ⟨(numB_len _).1, numLe2 10 _ (by omega)⟩
theorem zig1 : (zigB 1).length = 1 := numLe1 10 2 (by omega)
/-- How many bytes pairs alone have. -/
def sumP (ps : List PV) : Nat := (ps.flatMap pairB).length
theorem sumP_nil : sumP [] = 0 := rfl
theorem sumP_append (a b : List PV) : sumP (a ++ b) = sumP a + sumP b := by simp [sumP]
theorem sumP_one (p : PV) : sumP [p] = (pairB p).length := by simp [sumP]
theorem bytesP_len (ps : List PV) : (bytesP ps).length = (zigB ps.length).length + sumP ps := by simp [bytesP, sumP]
theorem bytesP_one (p : PV) : (bytesP [p]).length = (pairB p).length + 1 := by rw [bytesP_len, sumP_one]; simp [zig1]; omega
theorem pair_small {p : PV} (h : wt p ≤ 3000) : (pairB p).length ≤ 3000 := by
  unfold wt at h
  have h1 := (zig2 (n := (kb p.key).length) (by rw [kb_size]; omega)).2
  have h2 := (zig2 (n := p.b.length) (by omega)).2
  have h3 := kb_size p.key
  unfold pairB
  split
  · simp only [List.length_append, textB_len, List.length_cons, List.length_nil]; omega
  · simp only [List.length_append, textB_len, List.length_cons, List.length_nil]; omega
theorem pairB_core {p q : PV} (h : p.core = q.core) : pairB p = pairB q := by
  simp only [PV.core, Prod.mk.injEq] at h
  obtain ⟨h1, h2, h3⟩ := h
  unfold pairB
  rw [h1, h2, h3]
theorem sumP_core {ps qs : List PV} (h : ps.map PV.core = qs.map PV.core) : sumP ps = sumP qs := by
  induction ps generalizing qs with
  | nil =>
    cases qs with
    | nil => rfl
    | cons q qs => simp at h
  | cons p ps ih =>
    cases qs with
    | nil => simp at h
    | cons q qs =>
      simp only [List.map_cons, List.cons.injEq] at h
      have e1 : sumP (p :: ps) = (pairB p).length + sumP ps := by simp [sumP]
      have e2 : sumP (q :: qs) = (pairB q).length + sumP qs := by simp [sumP]
      rw [e1, e2, pairB_core h.1, ih h.2]
theorem sum_small {ps : List PV} (h : ∀ p ∈ ps, wt p ≤ 3000) : sumP ps ≤ 3000 * ps.length := by
  induction ps with
  | nil => simp [sumP]
  | cons p ps ih =>
    have e1 : sumP (p :: ps) = (pairB p).length + sumP ps := by simp [sumP]
    have h1 := pair_small (h p List.mem_cons_self)
    have h2 := ih fun q hq => h q (List.mem_cons_of_mem _ hq)
    rw [e1, List.length_cons]; omega
/-- What is cut off, up to f. -/
structure Cl (qs : List PV) (f : Nat) (parts : List (List PV)) : Prop where
  flat : parts.flatten = qs.take f
  fit : ∀ l ∈ parts, l ≠ [] ∧ 29766 ≤ (bytesP l).length ∧ (bytesP l).length ≤ 32768
def seg (qs : List PV) (f k : Nat) : List PV := (qs.drop f).take (k - f)
/-- What is cut off in k rounds, and from where it goes on. -/
def cutS (qs : List PV) : Nat → List (List PV) × Nat
  | 0 => ([], 0)
  | k + 1 => if 32768 < (bytesP (seg qs (cutS qs k).2 (k + 1))).length then ((cutS qs k).1 ++ [seg qs (cutS qs k).2 k], k) else cutS qs k
def cutF (qs : List PV) : List (List PV) := if (cutS qs qs.length).2 < qs.length then (cutS qs qs.length).1 ++ [seg qs (cutS qs qs.length).2 qs.length] else (cutS qs qs.length).1
/-- Pairs, cut into frames. -/
structure Cut (qs : List PV) (parts : List (List PV)) : Prop where
  is : parts = cutF qs
  flat : parts.flatten = qs
  fit : ∀ l ∈ parts, l ≠ [] ∧ (bytesP l).length ≤ 32768
  full : ∀ l ∈ parts.dropLast, 29766 ≤ (bytesP l).length
theorem seg_len {qs : List PV} {f k : Nat} (h : f ≤ k) (h2 : k ≤ qs.length) : (seg qs f k).length = k - f := by
  unfold seg; rw [List.length_take, List.length_drop]; omega
theorem seg_snoc {qs : List PV} {f k : Nat} {q : PV} (h : f ≤ k) (hq : qs[k]? = some q) : seg qs f (k + 1) = seg qs f k ++ [q] := by
  unfold seg
  rw [show k + 1 - f = (k - f) + 1 by omega, List.take_add_one, List.getElem?_drop, show f + (k - f) = k by omega, hq]
  rfl
theorem seg_self (qs : List PV) (f : Nat) : seg qs f f = [] := by simp [seg]
theorem seg_end {qs : List PV} {f : Nat} : seg qs f qs.length = qs.drop f := by
  unfold seg
  exact List.take_of_length_le (by simp)
theorem Cl.nil (qs : List PV) : Cl qs 0 [] := ⟨by simp, fun l h => by simp at h⟩
theorem Cl.snoc {qs : List PV} {f k : Nat} {parts : List (List PV)} (h : Cl qs f parts) (hf : f < k) (hk : k ≤ qs.length) (h1 : 29766 ≤ (bytesP (seg qs f k)).length) (h2 : (bytesP (seg qs f k)).length ≤ 32768) : Cl qs k (parts ++ [seg qs f k]) := by
  refine ⟨?_, fun l hl => ?_⟩
  · rw [List.flatten_append, h.flat]
    simp only [List.flatten_cons, List.flatten_nil, List.append_nil]
    unfold seg
    rw [← List.take_add, show f + (k - f) = k by omega]
  · rcases List.mem_append.1 hl with hl | hl
    · exact h.fit l hl
    · rw [List.mem_singleton.1 hl]
      refine ⟨fun e => ?_, h1, h2⟩
      have := seg_len (Nat.le_of_lt hf) hk
      rw [e] at this; simp at this; omega
theorem Cl.done {qs : List PV} {parts : List (List PV)} (h : Cl qs qs.length parts) (hs : cutS qs qs.length = (parts, qs.length)) : Cut qs parts :=
  ⟨by unfold cutF; rw [hs, if_neg (Nat.lt_irrefl _)], by rw [h.flat, List.take_length], fun l hl => ⟨(h.fit l hl).1, (h.fit l hl).2.2⟩, fun l hl => (h.fit l (List.dropLast_subset _ hl)).2.1⟩
theorem Cl.last {qs : List PV} {f : Nat} {parts : List (List PV)} (h : Cl qs f parts) (hf : f < qs.length) (h2 : (bytesP (seg qs f qs.length)).length ≤ 32768) (hs : cutS qs qs.length = (parts, f)) : Cut qs (parts ++ [seg qs f qs.length]) := by
  refine ⟨by unfold cutF; rw [hs, if_pos hf], ?_, fun l hl => ?_, fun l hl => ?_⟩
  · rw [List.flatten_append, h.flat, seg_end]
    simp
  · rcases List.mem_append.1 hl with hl | hl
    · exact ⟨(h.fit l hl).1, (h.fit l hl).2.2⟩
    · rw [List.mem_singleton.1 hl]
      refine ⟨fun e => ?_, h2⟩
      have := seg_len (Nat.le_of_lt hf) (Nat.le_refl _)
      rw [e] at this; simp at this; omega
  · rw [List.dropLast_concat] at hl
    exact (h.fit l hl).2.1
theorem seg_full {qs : List PV} {f k : Nat} {q : PV} (hf : f ≤ k) (hq : qs[k]? = some q) (hw : wt q ≤ 3000) (hl : qs.length ≤ 8000) (h : 32768 < (bytesP (seg qs f (k + 1))).length) : 29766 ≤ (bytesP (seg qs f k)).length := by
  have hk : k < qs.length := (List.getElem?_eq_some_iff.1 hq).1
  have h1 := seg_len (qs := qs) (f := f) (k := k) hf (by omega)
  have h2 := seg_len (qs := qs) (f := f) (k := k + 1) (by omega) (by omega)
  have h3 := (zig2 (n := k + 1 - f) (by omega)).2
  have h4 := (zig2 (n := k - f) (by omega)).1
  rw [bytesP_len, h2, seg_snoc hf hq, sumP_append, sumP_one] at h
  rw [bytesP_len, h1]
  have := pair_small hw
  omega
theorem seg_one {qs : List PV} {k : Nat} {q : PV} (hq : qs[k]? = some q) (hw : wt q ≤ 3000) : (bytesP (seg qs k (k + 1))).length ≤ 32768 := by
  rw [seg_snoc (Nat.le_refl _) hq, seg_self, List.nil_append, bytesP_one]
  have := pair_small hw
  omega
theorem seg_le {qs : List PV} {f k : Nat} (hf : f ≤ k) (hk : k ≤ qs.length) (hw : ∀ q ∈ qs, wt q ≤ 3000) (hl : qs.length ≤ 8000) : (bytesP (seg qs f k)).length ≤ 30000000 := by
  have h1 := seg_len hf hk
  have h2 := (zig2 (n := k - f) (by omega)).2
  have h3 := sum_small (ps := seg qs f k) fun q hq => hw q (List.mem_of_mem_drop (List.mem_of_mem_take hq))
  rw [bytesP_len, h1]
  rw [h1] at h3
  omega
/-- How long the frames are. -/
def frLen (parts : List (List PV)) : Nat := (parts.map fun l => (bytesP l).length + 16).sum
theorem sumP_cons (l : List PV) (parts : List (List PV)) : sumP (l :: parts).flatten = sumP l + sumP parts.flatten := by rw [List.flatten_cons, sumP_append]
theorem fr_le (parts : List (List PV)) (h : ∀ l ∈ parts, l.length ≤ 8000) : frLen parts ≤ sumP parts.flatten + 18 * parts.length := by
  induction parts with
  | nil => simp [frLen]
  | cons l parts ih =>
    have h1 := ih fun q hq => h q (List.mem_cons_of_mem _ hq)
    have h2 := (zig2 (h l List.mem_cons_self)).2
    have e : frLen (l :: parts) = (bytesP l).length + 16 + frLen parts := by simp [frLen]
    rw [e, sumP_cons, bytesP_len, List.length_cons]; omega
set_option maxRecDepth 100000 in
theorem fr_few (parts : List (List PV)) (h : ∀ l ∈ parts, l.length ≤ 8000) (hf : ∀ l ∈ parts.dropLast, 29766 ≤ (bytesP l).length) : (parts.length - 1) * 29764 ≤ sumP parts.flatten := by
  induction parts with
  | nil => simp
  | cons l parts ih =>
    cases parts with
    | nil => simp
    | cons m rest =>
      have h1 := ih (fun q hq => h q (List.mem_cons_of_mem _ hq)) fun q hq => hf q (by rw [List.dropLast_cons_of_ne_nil (by simp)]; exact List.mem_cons_of_mem _ hq)
      have h2 := hf l (by rw [List.dropLast_cons_of_ne_nil (by simp)]; exact List.mem_cons_self)
      have h3 := (zig2 (h l List.mem_cons_self)).2
      rw [bytesP_len] at h2
      rw [sumP_cons]
      have e1 : (m :: rest).length - 1 = rest.length := rfl
      have e2 : (l :: m :: rest).length - 1 = rest.length + 1 := rfl
      rw [e1] at h1
      rw [e2]
      omega
theorem len_flat {parts : List (List PV)} {l : List PV} (h : l ∈ parts) : l.length ≤ parts.flatten.length := by
  induction parts with
  | nil => simp at h
  | cons m parts ih =>
    rw [List.flatten_cons, List.length_append]
    rcases List.mem_cons.1 h with rfl | h
    · omega
    · have := ih h; omega
set_option maxRecDepth 100000 in
theorem cut_total {qs : List PV} {parts : List (List PV)} (h : Cut qs parts) (hq : qs.length ≤ 8000) : frLen parts ≤ sumP qs + 19 * (sumP qs / 16384 + 1) := by
  have hl : ∀ l ∈ parts, l.length ≤ 8000 := fun l hl => by have := len_flat hl; rw [h.flat] at this; omega
  have h1 := fr_le parts hl
  have h2 := fr_few parts hl h.full
  rw [h.flat] at h1 h2
  have h3 : parts.length - 1 ≤ sumP qs / 16384 := by rw [Nat.le_div_iff_mul_le (by decide)]; omega
  omega
theorem len_parts (parts : List (List PV)) (h : ∀ l ∈ parts, l ≠ []) : parts.length ≤ parts.flatten.length := by
  induction parts with
  | nil => simp
  | cons l parts ih =>
    have h1 := ih fun m hm => h m (List.mem_cons_of_mem _ hm)
    have h2 := List.length_pos_iff.2 (h l List.mem_cons_self)
    rw [List.flatten_cons, List.length_append, List.length_cons]; omega
theorem cut_len {qs : List PV} {parts : List (List PV)} (h : Cut qs parts) : parts.length ≤ qs.length := by
  have h1 := len_parts parts fun l hl => (h.fit l hl).1
  rwa [h.flat] at h1
theorem Cl.len {qs : List PV} {f : Nat} {parts : List (List PV)} (h : Cl qs f parts) : parts.length ≤ f := by
  have h1 := len_parts parts fun l hl => (h.fit l hl).1
  rw [h.flat, List.length_take] at h1
  omega
theorem infoBB : (Tryz.prog.info? 30).map (fun i => (i.zero, i.size, i.bytes)) = some (some (.slice none 0 0), 1, 24) := by kernel_rfl
def BV.val (p : BV) : Value := .slice p.A p.b.length p.c
theorem own_apartB {W : World} {b1 b2 s1 s2 n m : Nat} {v u : Value} {xs ys : List Value} (h1 : W.ownsRow b1 30 s1 v n xs) (h2 : W.ownsRow b2 5 s2 u m ys) : ∀ k, u.ownBlock = some k → v.ownBlock ≠ some k := by
  intro k e e2
  rcases h1.2 with ⟨hv, _⟩ | ⟨g, _, _, hv, _, hh, _⟩
  · rw [hv] at e2; cases e2
  · rcases h2.2 with ⟨hu, _⟩ | ⟨g', _, _, hu, _, hh', _⟩
    · rw [hu] at e; cases e
    · have hg : g = k := by rw [hv] at e2; simpa [Value.ownBlock] using e2
      have hg' : g' = k := by rw [hu] at e; simpa [Value.ownBlock] using e
      subst hg; subst hg'
      rw [hh] at hh'
      simp at hh'
/-- A row of slices of bytes of the call's own, with bytes of its own. -/
structure OwnB (w W : World) (v : Value) (ps : List BV) : Prop where
  row : W.ownsRow w.heap.size 30 1 v ps.length (ps.map BV.val)
  own : ∀ p ∈ ps, W.ownsRow w.heap.size 5 1 p.val p.b.length (p.b.map bv)
  kept : Kept (fun _ => False) w W
section
variable {w W W' : World} {v v' : Value} {ps : List BV}
theorem OwnB.nil (w : World) : OwnB w w (.slice none 0 0) [] := ⟨World.ownsRow_nil _ _ _ _, fun q h => by simp at h, Kept.refl _ _⟩
theorem OwnB.stay (h : OwnB w W v ps) (hk : Kept (fun _ => False) W W') : OwnB w W' v ps := ⟨own_kept h.row hk (by simp), fun q hq => own_kept (h.own q hq) hk (by simp), h.kept.trans' hk⟩
theorem OwnB.grow {p : BV} (h : OwnB w W v ps) (ho : W'.ownsRow w.heap.size 30 1 v' (ps.length + 1) (ps.map BV.val ++ [p.val])) (hg : W.grownBy W' v.ownBlock) (hr : W.ownsRow w.heap.size 5 1 p.val p.b.length (p.b.map bv)) : OwnB w W' v' (ps ++ [p]) := by
  have hK : Kept (fun k => v.ownBlock = some k) W W' := (Kept.refl _ W).grown hg fun k e _ => e
  refine ⟨by rw [List.length_append, List.map_append]; exact ho, fun q hq => ?_, h.kept.grown hg fun k e hk => by have := own_ge h.row k e; omega⟩
  rcases List.mem_append.1 hq with hq | hq
  · exact own_kept (h.own q hq) hK fun k e => own_apartB h.row (h.own q hq) k e
  · rw [List.mem_singleton.1 hq]; exact own_kept hr hK fun k e => own_apartB h.row hr k e
theorem OwnB.at_ (h : OwnB w W v ps) : ∃ A c, v = .slice A ps.length c ∧ (A = none → c = 0) ∧ BBs W A ps ∧ ∀ ad, A = some ad → w.heap.size ≤ ad.block ∧ ad.block < W.heap.size := by
  have hlt := fun k e => own_lt' h.row k e
  rcases h.row.2 with ⟨hv, h0⟩ | ⟨g, cap, cur, hv, hb, hh, hsz, hc, h63, ht⟩
  · have hps : ps = [] := List.eq_nil_of_length_eq_zero h0
    subst hps
    exact ⟨none, 0, hv, fun _ => rfl, fun j p hp => by simp at hp, fun ad e => by cases e⟩
  · refine ⟨some ⟨g, 0, none⟩, cap, hv, (fun e => by cases e), ?_, fun ad e => ?_⟩
    · intro k r hr
      have key := h.row.cells (g := g) (by rw [hv]; rfl) k r.val (by rw [List.getElem?_map, hr]; rfl)
      obtain ⟨A, c, h1, -, h2, h3, -⟩ := Bs.of_own (h.own r (List.mem_of_getElem? hr))
      simp only [BV.val, Value.slice.injEq] at h1
      obtain ⟨rfl, -, rfl⟩ := h1
      exact ⟨_, rfl, key, h2, h3⟩
    · injection e with e
      subst e
      exact ⟨hb, hlt g (by rw [hv]; rfl)⟩
end
end Go.Proofs.YtibalgfejfjndaaGreatDoor
end

/-! compact.frames, walked. -/
section
set_option linter.unusedVariables false
set_option linter.unusedSimpArgs false
namespace Go.Proofs.YtibalgfejfjndaaGreatDoor
open Go.RowKit

end Go.Proofs.YtibalgfejfjndaaGreatDoor
end

/-! slices.Values over slices of bytes; regions that draw, in a round, with calls behind their reads; files with a second file beside. -/
section
set_option linter.unusedVariables false
set_option linter.unusedSimpArgs false
namespace Go.Proofs.YtibalgfejfjndaaGreatDoor
open Go.RowKit Go.Sort

/-- Slices of bytes whose cells can be read. -/
def BC (w : World) (A : Option Addr) (ps : List BV) : Prop := ∀ (j : Nat) p, ps[j]? = some p → ∃ ad, A = some ad ∧ w.cell? (ad.add j) = some (.slice p.A p.b.length p.c)
theorem BBs.cells {w : World} {A : Option Addr} {ps : List BV} (h : BBs w A ps) : BC w A ps := fun j p hp => by
  obtain ⟨ad, h1, h2, _⟩ := h j p hp
  exact ⟨ad, h1, h2⟩
theorem BC.same {w w' : World} {A : Option Addr} {ps : List BV} (h : BC w A ps) (hk : ∀ k, rdOf A k → w'.heap[k]? = w.heap[k]?) : BC w' A ps := by
  intro j p hp
  obtain ⟨ad, rfl, hc⟩ := h j p hp
  have hb : w'.heap[(ad.add j).block]? = w.heap[(ad.add j).block]? := by rw [add_block]; exact hk _ ⟨ad, rfl, rfl⟩
  exact ⟨ad, rfl, (World.cell?_of_block hb).trans hc⟩
def encBB (p : BV) : Array Value := #[.slice p.A p.b.length p.c]
theorem wpIn_still_calls {P : Program} {n r f id : Nat} {Q : Exit → Act → World → Prop} {a : Act} {w : World} {l : List Oper} (k : Nat) (hm : P.follows .mixedOrders = true) (hB : Region.lexTailB .any l.toArray k = true) (hp : (l.all fun o => plainB o.op || callsB f o.op) = true)
    (he : ∀ args w, (callFunc f args).run P w = .ok (.enter f args) w) (hQ : ¬ LetsOut Q)
    (h : wpStill P l.toArray w.drew (fun a' => wpList P l.toArray Q (l.drop k) a' w.drew) (l.take k) a) : (Code.region id l.toArray true).wpIn (Fence.wide.inRound r) n P Q a w := wpIn_region_calls hm hp he hQ (wpAny_still_tail k hB h)
/-- A second file beside. -/
def TwoK (ps : List PF) (nk : ByteArray) (d : List UInt8) (made : Bool) (nt : ByteArray) (e : List UInt8) : Prop := ∃ pk pt, ps = pk ++ [pt] ∧ OneK pk nk d made ∧ pt.name = nt ∧ pt.b = e
theorem TwoK.used {ps : List PF} {nk nt : ByteArray} {d e : List UInt8} {m : Bool} (h : TwoK ps nk d m nt e) : usedL ps = d.length + e.length := by
  obtain ⟨pk, pt, rfl, h1, -, rfl⟩ := h
  rw [used_mid pk [] pt, List.append_nil, h1.used]
theorem OneK.not {ps : List PF} {nk nt : ByteArray} {d : List UInt8} {m : Bool} (h : OneK ps nk d m) (hne : nk ≠ nt) : ∀ q ∈ ps, q.name ≠ nt := by
  intro q hq e
  rcases h with ⟨rfl, -, -⟩ | ⟨p, rfl, hp, -, -⟩
  · cases hq
  · rw [List.mem_singleton.1 hq, hp] at e
    exact hne e
set_option maxHeartbeats 1000000 in
theorem tnew (W : World) (F M : Nat) (ps : List PF) (clock : Nat) (lim : Int) (nk nt : ByteArray) (d : List UInt8) (made : Bool) (h : FilesAt W F M ps clock lim 0 false) (ho : OneK ps nk d made) (hne : nk ≠ nt) (hs : nt.size ≤ 140737488355328) (hf : fullB nt = true) (hfit : (d.length : Int) ≤ lim) :
    Calls Tryz.prog 46 #[.pointer (some ⟨F, 0, none⟩), .string nt, .slice none 0 0] W fun e w' => e = .returned (.int .i64 0) ∧ ∃ ps' clock', Went W F M ps ps' clock' lim 0 false w' ∧ TwoK ps' nk d made nt [] := by
  have hl := h.lim0.2
  refine (append_new_none nt W F M lim 0 ps clock (ho.not hne) hs hf h (by rw [ho.used]; omega)).mono ?_
  rintro e w' ⟨B, v, rfl, hw⟩
  exact ⟨rfl, _, _, hw, ps, _, rfl, ho, rfl, rfl⟩
set_option maxHeartbeats 1000000 in
theorem tappend (W : World) (F M : Nat) (ps : List PF) (clock : Nat) (lim : Int) (nk nt : ByteArray) (d b : List UInt8) (made : Bool) (A : Option Addr) (n c : Nat) (xs : List UInt8) (h : FilesAt W F M ps clock lim 0 false) (ho : TwoK ps nk d made nt b) (hs : nt.size ≤ 140737488355328) (hf : fullB nt = true)
    (hx : Bs W A xs) (hn : n = xs.length) (hA : A = none → c = 0) (hfit : (xs.length : Int) + ((d.length : Int) + (b.length : Int)) ≤ lim) :
    Calls Tryz.prog 46 #[.pointer (some ⟨F, 0, none⟩), .string nt, .slice A n c] W fun e w' => e = .returned (.int .i64 0) ∧ ∃ ps' clock', Went W F M ps ps' clock' lim 0 false w' ∧ TwoK ps' nk d made nt (b ++ xs) := by
  have hl := h.lim0.2
  have hu := ho.used
  obtain ⟨pk, pt, rfl, h1, rfl, rfl⟩ := ho
  refine (append_old A n c W F M lim 0 pk [] pt clock xs hs hf h (by rw [hu]; omega) hx hn hA (by unfold Fits; rw [hu]; right; omega)).mono ?_
  rintro e w' ⟨u, rfl, hw⟩
  exact ⟨rfl, _, _, hw, pk, _, rfl, h1, rfl, rfl⟩
set_option maxHeartbeats 1000000 in
theorem tsync (W : World) (F M : Nat) (ps : List PF) (clock : Nat) (lim : Int) (nk nt : ByteArray) (d b : List UInt8) (made : Bool) (h : FilesAt W F M ps clock lim 0 false) (ho : TwoK ps nk d made nt b) :
    Calls Tryz.prog 50 #[.pointer (some ⟨F, 0, none⟩), .string nt] W fun e w' => e = .returned (.int .i64 0) ∧ ∃ ps', Went W F M ps ps' clock lim 0 false w' ∧ TwoK ps' nk d made nt b := by
  obtain ⟨pk, pt, rfl, h1, rfl, rfl⟩ := ho
  refine (sync_ok W F M lim 0 pk [] pt clock (by decide) h).mono ?_
  rintro e w' ⟨rfl, hw⟩
  exact ⟨rfl, _, hw, pk, _, rfl, h1, rfl, rfl⟩
theorem Went.off {S : Nat → Prop} {w W W' : World} {F M : Nat} {ps ps' : List PF} {c : Nat} {lim arm : Int} {dn : Bool} (h : Went w F M ps ps' c lim arm dn W) (hk : Kept S W W') (hS : ∀ k, S k → k ∉ foot F M ps' ∧ w.heap.size ≤ k) : Went w F M ps ps' c lim arm dn W' :=
  ⟨h.at_.kept hk fun k hm e => (hS k e).1 hm, h.kept.trans hk fun i hi e => by have := (hS i e).2; omega, h.feet⟩
theorem FilesAt.went0 {w : World} {F M : Nat} {ps : List PF} {c : Nat} {lim arm : Int} {dn : Bool} (h : FilesAt w F M ps c lim arm dn) : Went w F M ps ps c lim arm dn w := ⟨h, Kept.refl _ _, fun k hk => .inl hk⟩
/-- Frames, one behind the other. -/
def frsL : Nat → List (List UInt8) → List UInt8
  | _, [] => []
  | n, b :: r => frameB n b ++ frsL (n + 1) r
theorem frsL_snoc (n : Nat) (l : List (List UInt8)) (b : List UInt8) : frsL n (l ++ [b]) = frsL n l ++ frameB (n + l.length) b := by
  induction l generalizing n with
  | nil => simp [frsL]
  | cons x l ih =>
    simp only [List.cons_append, frsL, ih (n + 1), List.length_cons, List.append_assoc]
    rw [show n + 1 + l.length = n + (l.length + 1) by omega]
theorem frsL_len (n : Nat) (parts : List (List PV)) : (frsL n (parts.map bytesP)).length = frLen parts := by
  induction parts generalizing n with
  | nil => rfl
  | cons l parts ih =>
    have e : frLen (l :: parts) = (bytesP l).length + 16 + frLen parts := by simp [frLen]
    rw [List.map_cons, frsL, List.length_append, frameB_len, ih, e]
theorem fr_pre (parts : List (List PV)) (k : Nat) : frLen (parts.take k) ≤ frLen parts := by
  have e : frLen parts = frLen (parts.take k) + frLen (parts.drop k) := by
    unfold frLen
    rw [← List.sum_append, ← List.map_append, List.take_append_drop]
  omega
end Go.Proofs.YtibalgfejfjndaaGreatDoor
end

/-! compact.copied. -/
section
set_option linter.unusedVariables false
set_option linter.unusedSimpArgs false
namespace Go.Proofs.YtibalgfejfjndaaGreatDoor
open Go.RowKit Go.Sort
attribute [local go_sem] Oper.semAt_some

/-- Three results that lie in cells. -/
theorem results_cell3 {P : Program} {fn : Func} {p q r : Tmp} {t1 t2 t3 : TypeId} (h : fn.results = #[.cell p t1, .cell q t2, .cell r t3]) (h1 : ∀ w, (isAgg t1).run P w = .ok false w) (h2 : ∀ w, (isAgg t2).run P w = .ok false w) (h3 : ∀ w, (isAgg t3).run P w = .ok false w)
    {tmps : Array Value} {a b c : Addr} (hp : tmps.getD p undef = .pointer (some a)) (hq : tmps.getD q undef = .pointer (some b)) (hr : tmps.getD r undef = .pointer (some c)) {w : World} {u v x : Value} (ha : w.cell? a = some u) (hb : w.cell? b = some v) (hc : w.cell? c = some x) :
    (results fn tmps).run P w = .ok (.tuple #[u, v, x]) w := by
  have hp' : tmps[p]?.getD undef = .pointer (some a) := by simpa using hp
  have hq' : tmps[q]?.getD undef = .pointer (some b) := by simpa using hq
  have hr' : tmps[r]?.getD undef = .pointer (some c) := by simpa using hr
  simp [results, h, hp', hq', hr', asAddr, loadVar, h1, h2, h3, go_sem, ha, hb, hc]
/-- The cells that the last region of copied reads. -/
def CpS (B0 B4 B5 T F : Nat) (nm : ByteArray) (n s : Nat) (W : World) : Prop := W.cell? ⟨B0, 0, none⟩ = some (.pointer (some ⟨T, 0, none⟩)) ∧ W.cell? ⟨T, 0, none⟩ = some (.pointer (some ⟨F, 0, none⟩)) ∧ W.cell? ⟨T, 1, none⟩ = some (.string nm) ∧ W.cell? ⟨B4, 0, none⟩ = some (.int .u64 (n : Nat)) ∧ W.cell? ⟨B5, 0, none⟩ = some (.int .i64 (s : Nat))
theorem CpS.off {B0 B4 B5 T F i : Nat} {nm : ByteArray} {n s : Nat} {W W' : World} (h : CpS B0 B4 B5 T F nm n s W) (hk : Kept (fun k => k = i) W W') (h0 : B0 ≠ i) (h4 : B4 ≠ i) (h5 : B5 ≠ i) (hT : T ≠ i) : CpS B0 B4 B5 T F nm n s W' :=
  ⟨hk.cell h.1 h0, hk.cell h.2.1 hT, hk.cell h.2.2.1 hT, hk.cell h.2.2.2.1 h4, hk.cell h.2.2.2.2 h5⟩
end Go.Proofs.YtibalgfejfjndaaGreatDoor
end

/-! compact.Compact, where there is room. -/
section
set_option linter.unusedVariables false
set_option linter.unusedSimpArgs false
namespace Go.Proofs.YtibalgfejfjndaaGreatDoor
open Go.RowKit

end Go.Proofs.YtibalgfejfjndaaGreatDoor
end

/-! courantlaw23.CompactShort, plain: what the rounds hold. -/
section
set_option linter.unusedVariables false
set_option linter.unusedSimpArgs false
namespace Go.Proofs.YtibalgfejfjndaaGreatDoor
open Go.RowKit

def wtC (c : Core) : Nat := c.1.size + c.2.1.length + 10
theorem put1_len (L : List Core) (c : Core) : (put1 L c).length ≤ L.length + 1 := by
  unfold put1
  simp only [List.length_append, List.length_take, List.length_drop]
  have h1 : (if c.2.2 then [] else [(c.1, c.2.1, false)] : List Core).length ≤ 1 := by split <;> simp
  have h2 : coreAt L c.1 ≤ (if coreIs L c.1 then coreAt L c.1 + 1 else coreAt L c.1) := by split <;> omega
  omega
theorem putC_len (L M : List Core) : (putC L M).length ≤ L.length + M.length := by
  unfold putC
  induction M generalizing L with
  | nil => simp
  | cons m M ih =>
    rw [List.foldl_cons]
    have h1 := ih (put1 L m)
    have h2 := put1_len L m
    rw [List.length_cons]; omega
theorem put1_wt {n : Nat} {L : List Core} {c : Core} (hL : ∀ x ∈ L, wtC x ≤ n) (hc : wtC c ≤ n) : ∀ x ∈ put1 L c, wtC x ≤ n := by
  intro x hx
  unfold put1 at hx
  rcases List.mem_append.1 hx with hx | hx
  · rcases List.mem_append.1 hx with hx | hx
    · exact hL x (List.mem_of_mem_take hx)
    · split at hx
      · cases hx
      · rw [List.mem_singleton.1 hx]; exact hc
  · exact hL x (List.mem_of_mem_drop hx)
theorem putC_wt {n : Nat} {L M : List Core} (hL : ∀ x ∈ L, wtC x ≤ n) (hM : ∀ x ∈ M, wtC x ≤ n) : ∀ x ∈ putC L M, wtC x ≤ n := by
  unfold putC
  induction M generalizing L with
  | nil => exact hL
  | cons m M ih =>
    rw [List.foldl_cons]
    exact ih (put1_wt hL (hM m List.mem_cons_self)) fun x hx => hM x (List.mem_cons_of_mem _ hx)
theorem wt_core {n : Nat} {ps : List PV} : (∀ p ∈ ps, wt p ≤ n) ↔ ∀ x ∈ ps.map PV.core, wtC x ≤ n := by
  constructor
  · intro h x hx
    obtain ⟨p, hp, rfl⟩ := List.mem_map.1 hx
    exact h p hp
  · intro h p hp
    exact h _ (List.mem_map_of_mem hp)
theorem pair_le {p : PV} (h : wt p ≤ 3000) : (pairB p).length ≤ wt p := by
  unfold wt at h ⊢
  have h1 := (zig2 (n := (kb p.key).length) (by rw [kb_size]; omega)).2
  have h2 := (zig2 (n := p.b.length) (by omega)).2
  have h3 := kb_size p.key
  unfold pairB
  split
  · simp only [List.length_append, textB_len, List.length_cons, List.length_nil]; omega
  · simp only [List.length_append, textB_len, List.length_cons, List.length_nil]; omega
theorem sum_wt (ps : List PV) (h : (ps.map wt).sum ≤ 3000) : (∀ p ∈ ps, wt p ≤ 3000) ∧ sumP ps ≤ (ps.map wt).sum := by
  induction ps with
  | nil => exact ⟨fun p hp => by simp at hp, by simp [sumP]⟩
  | cons p ps ih =>
    simp only [List.map_cons, List.sum_cons] at h ⊢
    obtain ⟨h1, h2⟩ := ih (by omega)
    have h3 := pair_le (p := p) (by omega)
    have e1 : sumP (p :: ps) = (pairB p).length + sumP ps := by simp [sumP]
    refine ⟨fun q hq => ?_, by rw [e1]; omega⟩
    rcases List.mem_cons.1 hq with rfl | hq
    · omega
    · exact h1 q hq
theorem few_small {ps : List PV} (h : fewP ps = true) : ps.length < 50 ∧ (∀ p ∈ ps, wt p ≤ 3000) ∧ (bytesP ps).length ≤ 3100 := by
  simp only [fewP, Bool.and_eq_true, decide_eq_true_eq] at h
  obtain ⟨h1, h2⟩ := h
  unfold fewN at h2
  rw [List.take_of_length_le (by omega)] at h2
  obtain ⟨h3, h4⟩ := sum_wt ps (by omega)
  have h5 := (zig2 (n := ps.length) (by omega)).2
  refine ⟨h1, h3, ?_⟩
  rw [bytesP_len]; omega
theorem cut_fit {qs : List PV} {parts : List (List PV)} (h : Cut qs parts) (hl : qs.length ≤ 150) (hw : ∀ q ∈ qs, wt q ≤ 3000) : frLen parts ≤ 460000 := by
  have h1 := fr_le parts fun l hl' => by have := len_flat hl'; rw [h.flat] at this; omega
  have h2 := cut_len h
  have h3 := sum_small hw
  rw [h.flat] at h1
  omega
/-- What a call on the store may write. -/
def Zs (W : World) (T F M : Nat) (ps : List PF) (k : Nat) : Prop := k = T ∨ k ∈ foot F M ps ∨ W.heap.size ≤ k
theorem PsL.next {Z Z' : Nat → Prop} {w w' : World} {A : Option Addr} {ms : List PV} (h : PsL Z w A ms) (hk : Kept (fun k => Z k) w w') (hZ : ∀ k, Z' k → Z k) : PsL Z' w' A ms := fun W hW => h W (hk.trans' (hW.mono fun k _ e => hZ k e))
theorem PsL.here {Z : Nat → Prop} {w : World} {A : Option Addr} {ms : List PV} (h : PsL Z w A ms) : PsAt w A ms := h w (Kept.refl _ _)
theorem Zs.grow {W W' : World} {T F M : Nat} {ps : List PF} (hs : W.heap.size ≤ W'.heap.size) {k : Nat} (h : Zs W' T F M ps k) : Zs W T F M ps k := h.imp id (·.imp id fun h => Nat.le_trans hs h)
section
variable {w W W' w' : World} {T F M k k' : Nat} {Al : Option Addr} {ms qs : List PV} {ps ps' : List PF} {clock clock' : Nat} {v v' : Value} {next : Nat} {d : List UInt8} {made : Bool}
end
/-- Slices of pairs that came in. -/
structure LV where
  A : Option Addr
  c : Nat
  ps : List PV
def PssAt (w : World) (A : Option Addr) (ls : List LV) : Prop := ∀ (j : Nat) l, ls[j]? = some l → ∃ ad, A = some ad ∧ w.cell? (ad.add j) = some (.slice l.A l.ps.length l.c) ∧ PsAt w l.A l.ps ∧ (∀ p ∈ l.ps, p.Sz) ∧ l.ps.length ≤ 140737488355328
end Go.Proofs.YtibalgfejfjndaaGreatDoor
end

/-! compact.Store.read. -/
section
set_option linter.unusedVariables false
set_option linter.unusedSimpArgs false
namespace Go.Proofs.YtibalgfejfjndaaGreatDoor
open Go.RowKit

/-- What frames' pairs come to. -/
def foldP (parts : List (List PV)) : List Core := parts.foldl (fun L l => putC L (l.map PV.core)) []
theorem foldP_snoc (parts : List (List PV)) (l : List PV) : foldP (parts ++ [l]) = putC (foldP parts) (l.map PV.core) := by simp [foldP]
theorem put1_norm (L : List Core) (p : PV) : put1 L (normP p) = put1 L p.core := by
  unfold put1 normP PV.core nb
  cases h : p.gone <;> simp
theorem putC_norm (L : List Core) (ps : List PV) : putC L (ps.map normP) = putC L (ps.map PV.core) := by
  induction ps generalizing L with
  | nil => rfl
  | cons p ps ih =>
    have e1 : ∀ M c, putC L (c :: M) = putC (put1 L c) M := fun M c => rfl
    rw [List.map_cons, List.map_cons, e1, e1, put1_norm, ih]
theorem put1_all {Q : Core → Prop} {L : List Core} {c : Core} (hL : ∀ x ∈ L, Q x) (hc : Q (c.1, c.2.1, false)) : ∀ x ∈ put1 L c, Q x := by
  intro x hx
  unfold put1 at hx
  rcases List.mem_append.1 hx with hx | hx
  · rcases List.mem_append.1 hx with hx | hx
    · exact hL x (List.mem_of_mem_take hx)
    · split at hx
      · cases hx
      · rw [List.mem_singleton.1 hx]; exact hc
  · exact hL x (List.mem_of_mem_drop hx)
theorem putC_all {Q : Core → Prop} {L M : List Core} (hL : ∀ x ∈ L, Q x) (hM : ∀ x ∈ M, Q (x.1, x.2.1, false)) : ∀ x ∈ putC L M, Q x := by
  unfold putC
  induction M generalizing L with
  | nil => exact hL
  | cons m M ih =>
    rw [List.foldl_cons]
    exact ih (put1_all hL (hM m List.mem_cons_self)) fun x hx => hM x (List.mem_cons_of_mem _ hx)
theorem foldP_all {Q : Core → Prop} {parts : List (List PV)} (h : ∀ l ∈ parts, ∀ p ∈ l, Q (p.key, p.b, false)) : ∀ x ∈ foldP parts, Q x := by
  have : ∀ (parts : List (List PV)) (L : List Core), (∀ x ∈ L, Q x) → (∀ l ∈ parts, ∀ p ∈ l, Q (p.key, p.b, false)) → ∀ x ∈ parts.foldl (fun L l => putC L (l.map PV.core)) L, Q x := by
    intro parts
    induction parts with
    | nil => exact fun L hL _ => hL
    | cons l parts ih =>
      intro L hL hp
      rw [List.foldl_cons]
      refine ih _ (putC_all hL fun x hx => ?_) fun m hm => hp m (List.mem_cons_of_mem _ hm)
      obtain ⟨p, hp1, rfl⟩ := List.mem_map.1 hx
      exact hp l List.mem_cons_self p hp1
  exact this parts [] (by simp) h
theorem foldP_len (parts : List (List PV)) : (foldP parts).length ≤ parts.flatten.length := by
  have : ∀ (parts : List (List PV)) (L : List Core), (parts.foldl (fun L l => putC L (l.map PV.core)) L).length ≤ L.length + parts.flatten.length := by
    intro parts
    induction parts with
    | nil => simp
    | cons l parts ih =>
      intro L
      have h1 := ih (putC L (l.map PV.core))
      have h2 := putC_len L (l.map PV.core)
      rw [List.foldl_cons, List.flatten_cons, List.length_append]
      simp only [List.length_map] at h2
      omega
  simpa [foldP] using this parts []
theorem fromB_form (A : Option Addr) (l lo c : Nat) (xs : List UInt8) (hl : l = xs.length) (h1 : lo ≤ l) (hc : l ≤ c) (hA : A = none → c = 0) :
    ∃ A2, (∀ W, (Instr.slice 30 (.slice A l c) (some (.int .i64 lo)) none none).run Tryz.prog W = .ok (.slice A2 (l - lo) (c - lo)) W) ∧ (∀ W, Bs W A xs → Bs W A2 (xs.drop lo)) ∧ (A2 = none → c - lo = 0) := by
  refine ⟨if c = lo then A else A.map (·.add (lo * 1)), fun W => slice_fromB W A l lo c h1 hc, fun W h => ?_, fun e => ?_⟩
  · by_cases h0 : c = lo
    · rw [if_pos h0, List.drop_of_length_le (by omega)]; exact Bs.nil _ _
    · rw [if_neg h0]; exact bs_drop h lo
  · by_cases h0 : c = lo
    · omega
    · rw [if_neg h0] at e
      cases A with
      | none => have := hA rfl; omega
      | some a => cases e
section
variable {w W W' : World} {T F : Nat} {nm : ByteArray} {v v' : Value} {qs qs' : List PV} {next size next' size' : Nat} {dead : Bool}
end
theorem frsL_append (n : Nat) (a b : List (List UInt8)) : frsL n (a ++ b) = frsL n a ++ frsL (n + a.length) b := by
  induction a generalizing n with
  | nil => simp [frsL]
  | cons x a ih =>
    simp only [List.cons_append, frsL, ih (n + 1), List.length_cons, List.append_assoc]
    rw [show n + 1 + a.length = n + (a.length + 1) by omega]
theorem frs_at {parts : List (List PV)} {tail : List UInt8} {j : Nat} {l : List PV} (h : parts[j]? = some l) :
    (frsL 0 (parts.map bytesP) ++ tail).drop (frsL 0 ((parts.take j).map bytesP)).length = frameB j (bytesP l) ++ (frsL (j + 1) ((parts.drop (j + 1)).map bytesP) ++ tail) ∧ (frsL 0 ((parts.take (j + 1)).map bytesP)).length = (frsL 0 ((parts.take j).map bytesP)).length + (16 + (bytesP l).length) := by
  have hj := (List.getElem?_eq_some_iff.1 h).1
  have e1 : parts.map bytesP = (parts.take j).map bytesP ++ (bytesP l :: (parts.drop (j + 1)).map bytesP) := by
    conv => lhs; rw [← List.take_append_drop j parts, List.map_append]
    rw [List.drop_eq_getElem_cons hj, List.map_cons, (List.getElem?_eq_some_iff.1 h).2]
  have e2 : ((parts.take j).map bytesP).length = j := by rw [List.length_map, List.length_take]; omega
  constructor
  · rw [e1, frsL_append, e2, Nat.zero_add, List.append_assoc, List.drop_left]
    simp [frsL]
  · rw [List.take_add_one, h, Option.toList_some, List.map_append, List.map_cons, List.map_nil, frsL_snoc, e2, List.length_append, frameB_len]
    omega
theorem frs_end (parts : List (List PV)) (tail : List UInt8) : (frsL 0 (parts.map bytesP) ++ tail).drop (frsL 0 ((parts.take parts.length).map bytesP)).length = tail := by
  rw [List.take_length, List.drop_left]
theorem frs_le (parts : List (List PV)) (j : Nat) : (frsL 0 ((parts.take j).map bytesP)).length ≤ (frsL 0 (parts.map bytesP)).length := by
  conv => rhs; rw [← List.take_append_drop j parts, List.map_append, frsL_append, List.length_append]
  omega
def cellNat : Option Value → Nat
  | some (.int _ z) => z.toNat
  | _ => 0
end Go.Proofs.YtibalgfejfjndaaGreatDoor
end

/-! A store with its files, whatever hits them; compact.Open of files that are there. -/
section
set_option linter.unusedVariables false
set_option linter.unusedSimpArgs false
namespace Go.Proofs.YtibalgfejfjndaaGreatDoor
open Go.RowKit

/-- What a call on a store may turn. -/
structure Moved (w : World) (T F M : Nat) (ps ps' : List PF) (w' : World) : Prop where
  kept : Kept (fun k => k = T ∨ k ∈ foot F M ps) w w'
  feet : ∀ k ∈ foot F M ps', k ∈ foot F M ps ∨ w.heap.size ≤ k
theorem Moved.refl (w : World) (T F M : Nat) (ps : List PF) : Moved w T F M ps ps w := ⟨Kept.refl _ _, fun k h => .inl h⟩
theorem Moved.trans {w w1 w2 : World} {T F M : Nat} {p1 p2 p3 : List PF} (h : Moved w T F M p1 p2 w1) (k : Moved w1 T F M p2 p3 w2) : Moved w T F M p1 p3 w2 :=
  ⟨h.kept.trans k.kept fun i hi e => by
    rcases e with e | e
    · exact .inl e
    · rcases h.feet i e with e | e
      · exact .inr e
      · omega, fun i hi => by
    rcases k.feet i hi with e | e
    · exact h.feet i e
    · exact .inr (Nat.le_trans h.kept.size e)⟩
theorem Moved.stay {w w1 : World} {T F M : Nat} {ps : List PF} (h : Kept (fun _ => False) w w1) : Moved w T F M ps ps w1 := ⟨h.mono fun _ _ e => e.elim, fun k e => .inl e⟩
theorem Moved.turn {w w1 : World} {T F M : Nat} {ps : List PF} (h : Kept (fun k => k = T) w w1) : Moved w T F M ps ps w1 := ⟨h.mono fun _ _ e => .inl e, fun k e => .inl e⟩
theorem Moved.went {w w1 : World} {T F M : Nat} {ps ps' : List PF} {c : Nat} {l a : Int} {dn : Bool} (h : Went w F M ps ps' c l a dn w1) : Moved w T F M ps ps' w1 := ⟨h.kept.mono fun _ _ e => .inr e, h.feet⟩
section
variable {w w' : World} {T F M : Nat} {nm : ByteArray} {ps ps' : List PF} {clock clock' : Nat} {lim lim' arm arm' : Int} {dn dn' : Bool} {v : Value} {qs : List PV} {next size : Nat} {dead : Bool}
end
/-- A store's file: the frames, and some first bytes of one more. -/
structure KIs (x : Option FV) (parts : List (List PV)) (t : List UInt8) : Prop where
  is : (x = none ∧ parts = [] ∧ t = []) ∨ ∃ sf, x = some (frsL 0 (parts.map bytesP) ++ t, sf)
  tail : ∃ (y : List UInt8) (m : Nat), y.length ≤ 32768 ∧ m < (frameB parts.length y).length ∧ t = (frameB parts.length y).take m
  fit : ∀ l ∈ parts, l.length ≤ 10000 ∧ (bytesP l).length ≤ 32768 ∧ ∀ p ∈ l, p.key.size ≤ 32768 ∧ p.b.length ≤ 32768
  few : parts.length ≤ 1000000
  flat : parts.flatten.length ≤ 300000
/-- What Open leaves there. -/
def openD (d : Disk) (nk nt : ByteArray) (parts : List (List PV)) : Disk :=
  match d nk with
  | none => d.put nt none
  | some v => (d.put nt none).put nk (some (frsL 0 (parts.map bytesP), min v.2 (frsL 0 (parts.map bytesP)).length))
theorem decA0 {arm : Int} (h : arm = 0) : decA arm = 0 := by rw [decA, if_pos h]
end Go.Proofs.YtibalgfejfjndaaGreatDoor
end

/-! A log as its segments: pure. -/
section
set_option linter.unusedVariables false
set_option linter.unusedSimpArgs false
namespace Go.Proofs.YtibalgfejfjndaaGreatDoor

/-- A segment: its first offset, its records. -/
abbrev Prt := Nat × List (List UInt8)
def szP (p : Prt) : Nat := (frsL p.1 p.2).length
def frsP (p : Prt) : List UInt8 := frsL p.1 p.2
def sumR (l : List (List UInt8)) : Nat := (l.map fun b => 16 + b.length).sum
theorem frsN_len (n : Nat) (l : List (List UInt8)) : (frsL n l).length = sumR l := by
  induction l generalizing n with
  | nil => rfl
  | cons b l ih => simp only [frsL, List.length_append, frameB_len, ih, sumR, List.map_cons, List.sum_cons]; omega
theorem szP_eq (p : Prt) : szP p = sumR p.2 := frsN_len _ _
def endP (p : Prt) : Nat := p.1 + p.2.length
/-- Segments follow one another; none but the last is empty. -/
def Cont : List Prt → Prop
  | [] => True
  | [_] => True
  | p :: q :: r => q.1 = endP p ∧ p.2 ≠ [] ∧ Cont (q :: r)
def allR (ps : List Prt) : List (List UInt8) := ps.flatMap Prod.snd
def fstP (ps : List Prt) : Nat := (ps.head?.map Prod.fst).getD 0
def nxtP (ps : List Prt) : Nat := (ps.getLast?.map endP).getD 0
theorem Cont.tail {p : Prt} {ps : List Prt} (h : Cont (p :: ps)) : Cont ps := by
  cases ps with
  | nil => trivial
  | cons q r => exact h.2.2
theorem nxtP_cons {p : Prt} {ps : List Prt} : nxtP (p :: ps) = if ps = [] then endP p else nxtP ps := by
  cases ps with
  | nil => rfl
  | cons q r => simp [nxtP]
theorem nxtP_eq : ∀ {ps : List Prt}, Cont ps → nxtP ps = fstP ps + (allR ps).length
  | [], _ => rfl
  | [p], _ => by simp [nxtP, fstP, allR, endP]
  | p :: q :: r, h => by
    have ih := nxtP_eq h.2.2
    rw [nxtP_cons, if_neg (by simp), ih]
    have h1 := h.1
    simp only [fstP, allR, endP, List.head?_cons, Option.map_some, Option.getD_some, List.flatMap_cons, List.length_append] at *
    omega
theorem Cont.snoc : ∀ {ps : List Prt} {p : Prt}, Cont ps → (ps ≠ [] → p.1 = nxtP ps) → (∀ q ∈ ps, q.2 ≠ []) → Cont (ps ++ [p])
  | [], _, _, _, _ => trivial
  | [q], p, _, h, h3 => ⟨by simpa [nxtP] using h (by simp), h3 q (by simp), trivial⟩
  | q :: r :: s, p, h, h2, h3 => ⟨h.1, h.2.1, Cont.snoc (ps := r :: s) h.2.2 (fun _ => by rw [h2 (by simp), nxtP_cons, if_neg (by simp)]) fun x hx => h3 x (List.mem_cons_of_mem _ hx)⟩
theorem Cont.rise : ∀ {ps : List Prt}, Cont ps → (ps.map Prod.fst).Pairwise (· < ·) ∧ ∀ p ∈ ps, fstP ps ≤ p.1
  | [], _ => ⟨.nil, fun p hp => by cases hp⟩
  | [p], _ => ⟨by simp, fun q hq => by simp at hq; subst hq; simp [fstP]⟩
  | p :: q :: r, h => by
    obtain ⟨h1, h2⟩ := Cont.rise h.2.2
    have h3 : p.1 < q.1 := by
      have := List.length_pos_iff.2 h.2.1
      have := h.1
      unfold endP at this; omega
    refine ⟨?_, fun x hx => ?_⟩
    · rw [List.map_cons, List.pairwise_cons]
      refine ⟨fun v hv => ?_, h1⟩
      obtain ⟨x, hx, rfl⟩ := List.mem_map.1 hv
      have h4 := h2 x hx
      simp [fstP] at h4; omega
    · rcases List.mem_cons.1 hx with rfl | hx
      · simp [fstP]
      · have h4 := h2 x hx
        simp [fstP] at h4 ⊢; omega
theorem Cont.lt {x : Prt} {ps : List Prt} (h : Cont (x :: ps)) : ∀ p ∈ ps, x.1 < p.1 := fun p hp => (List.pairwise_cons.1 (show (x.1 :: ps.map Prod.fst).Pairwise (· < ·) from (Cont.rise h).1)).1 _ (List.mem_map_of_mem hp)
theorem Cont.lt_end : ∀ {ps : List Prt}, Cont ps → ∀ p ∈ ps, endP p ≤ nxtP ps
  | [], _, p, hp => by cases hp
  | [q], _, p, hp => by simp at hp; subst hp; simp [nxtP]
  | q :: r :: s, h, p, hp => by
    rw [nxtP_cons, if_neg (by simp)]
    rcases List.mem_cons.1 hp with rfl | hp
    · have := Cont.lt_end h.2.2 r (by simp)
      have h1 := h.1
      unfold endP at *; omega
    · exact Cont.lt_end h.2.2 p hp
/-- What lies under a log's names: all but the last segment whole and safe; behind the last one's records t. -/
def lookP (ps : List Prt) (t : List UInt8) (sf : Nat) (v : Nat) : Option FV := match ps with
  | [] => none
  | [p] => if v = p.1 then some (frsP p ++ t, sf) else none
  | p :: q :: r => if v = p.1 then some (frsP p, szP p) else lookP (q :: r) t sf v
def LogD (d : Disk) (nm : ByteArray) (ps : List Prt) (t : List UInt8) (sf : Nat) : Prop := ∀ v, v < 18446744073709551616 → d (fileB nm v) = lookP ps t sf v
theorem lookP_none : ∀ {ps : List Prt} {t : List UInt8} {sf v : Nat}, lookP ps t sf v ≠ none ↔ v ∈ ps.map Prod.fst
  | [], _, _, _ => by simp [lookP]
  | [p], t, sf, v => by simp [lookP]
  | p :: q :: r, t, sf, v => by
    rw [lookP, List.map_cons, List.mem_cons]
    by_cases h : v = p.1
    · simp [h]
    · rw [if_neg h, lookP_none (ps := q :: r)]; simp [h]
theorem lookP_last : ∀ {ps : List Prt} {p : Prt} {t : List UInt8} {sf : Nat}, Cont (ps ++ [p]) → lookP (ps ++ [p]) t sf p.1 = some (frsP p ++ t, sf)
  | [], p, t, sf, _ => by simp [lookP]
  | [q], p, t, sf, h => by
    have h1 : q.1 < p.1 := Cont.lt h p (by simp)
    simp [lookP, show ¬ p.1 = q.1 by omega]
  | q :: r :: s, p, t, sf, h => by
    have h1 : q.1 < p.1 := Cont.lt h p (by simp)
    have ih := lookP_last (ps := r :: s) (p := p) (t := t) (sf := sf) h.2.2
    rw [List.cons_append, List.cons_append, lookP, if_neg (by omega)]
    exact ih
theorem lookP_before : ∀ {a b : List Prt} {p : Prt} {t : List UInt8} {sf : Nat}, b ≠ [] → Cont (a ++ p :: b) → lookP (a ++ p :: b) t sf p.1 = some (frsP p, szP p)
  | [], q :: r, p, t, sf, _, h => by simp [lookP]
  | x :: a, b, p, t, sf, hb, h => by
    have h1 : x.1 < p.1 := Cont.lt h p (by simp)
    cases a with
    | nil =>
      have ih := lookP_before (a := []) (p := p) (t := t) (sf := sf) hb (Cont.tail h)
      simp only [List.cons_append, List.nil_append] at ih ⊢
      rw [lookP, if_neg (by omega)]; exact ih
    | cons y a =>
      have ih := lookP_before (a := y :: a) (p := p) (t := t) (sf := sf) hb (Cont.tail h)
      simp only [List.cons_append] at ih ⊢
      rw [lookP, if_neg (by omega)]; exact ih
/-- The last segment is another one. -/
theorem lookP_turn : ∀ {ps : List Prt} {p p' : Prt} {t t' : List UInt8} {sf sf' v : Nat}, p'.1 = p.1 → v ≠ p.1 → lookP (ps ++ [p']) t' sf' v = lookP (ps ++ [p]) t sf v
  | [], p, p', t, t', sf, sf', v, h, hv => by simp [lookP, h, hv]
  | [q], p, p', t, t', sf, sf', v, h, hv => by simp [lookP, h, hv]
  | q :: r :: s, p, p', t, t', sf, sf', v, h, hv => by
    have ih := lookP_turn (ps := r :: s) (p := p) (p' := p') (t := t) (t' := t') (sf := sf) (sf' := sf') (v := v) h hv
    simp only [List.cons_append] at ih ⊢
    rw [lookP, lookP, ih]
theorem lookP_snoc : ∀ {ps : List Prt} {p q : Prt} {t : List UInt8} {sf v : Nat}, v ≠ q.1 → lookP (ps ++ [p] ++ [q]) t sf v = lookP (ps ++ [p]) [] (szP p) v
  | [], p, q, t, sf, v, h => by simp [lookP, h, frsP, szP]
  | [x], p, q, t, sf, v, h => by simp [lookP, h, frsP, szP]
  | x :: y :: s, p, q, t, sf, v, h => by
    have ih := lookP_snoc (ps := y :: s) (p := p) (q := q) (t := t) (sf := sf) (v := v) h
    simp only [List.cons_append] at ih ⊢
    rw [lookP, lookP, ih]
theorem fileB_inj {nm : ByteArray} {v u : Nat} (hv : v < 18446744073709551616) (hu : u < 18446744073709551616) (h : fileB nm v = fileB nm u) : v = u := by
  unfold fileB at h
  exact fileL_inj hv hu (by simpa using h)
theorem fileB_nm {nm nm' : ByteArray} {v u : Nat} (h : fileB nm v = fileB nm' u) : nm = nm' := by
  unfold fileB at h
  have h1 : fileL nm.data.toList v = fileL nm'.data.toList u := by simpa using h
  have h2 : nm.data.toList.length = nm'.data.toList.length := by
    have := congrArg List.length h1
    rw [fileL_len, fileL_len] at this; omega
  unfold fileL at h1
  have h3 := (List.append_inj h1 h2).1
  cases nm; cases nm'
  simpa using h3
end Go.Proofs.YtibalgfejfjndaaGreatDoor
end

/-! compact.Open of files that are there, walked. -/
section
set_option linter.unusedVariables false
set_option linter.unusedSimpArgs false
namespace Go.Proofs.YtibalgfejfjndaaGreatDoor
open Go.RowKit

theorem Moved.open_ {w W w' : World} {T F M : Nat} {ps ps' : List PF} (hk : Kept (fun _ => False) w W) (hT : w.heap.size ≤ T) (h : Moved W T F M ps ps' w') : Kept (fun k => k ∈ foot F M ps) w w' ∧ ∀ k ∈ foot F M ps', k ∈ foot F M ps ∨ w.heap.size ≤ k :=
  ⟨(hk.mono fun _ _ e => e.elim).trans h.kept fun i hi e => by
    rcases e with e | e
    · omega
    · exact e, fun k hm => (h.feet k hm).imp id fun e => Nat.le_trans hk.size e⟩
theorem openD_none {d : Disk} {nk nt : ByteArray} {parts : List (List PV)} (h : d nk = none) : openD d nk nt parts = d.put nt none := by unfold openD; rw [h]
theorem openD_some {d : Disk} {nk nt : ByteArray} {parts : List (List PV)} {v : FV} (h : d nk = some v) : openD d nk nt parts = (d.put nt none).put nk (some (frsL 0 (parts.map bytesP), min v.2 (frsL 0 (parts.map bytesP)).length)) := by unfold openD; rw [h]
theorem put_id {d : Disk} {s : ByteArray} {x : Option FV} (h : d s = x) : d.put s x = d := by
  funext t
  unfold Disk.put
  split
  · next e => rw [e, h]
  · rfl
end Go.Proofs.YtibalgfejfjndaaGreatDoor
end
