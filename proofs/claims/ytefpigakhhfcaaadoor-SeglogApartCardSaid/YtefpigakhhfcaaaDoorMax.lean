import Derived.Test.YtefpigakhhfcaaaDoorMaw
/-! frame.Take: too short; a whole frame. -/
section
set_option linter.unusedVariables false
set_option linter.unusedSimpArgs false
namespace Go.Proofs.YtefpigakhhfcaaaDoor
open Go.RowKit

/-- A structure in a cell, and two numbers. -/
theorem results_row_tmp2 {P : Program} {fn : Func} {p u z : Tmp} {ty : TypeId} (h : fn.results = #[.cell p ty, .tmp u, .tmp z]) (tmps : Array Value) (w : World) (g : Nat) (t : TypeId) (cs : Array Value) (fr : Nat × Nat) (d : TypeDesc)
    (hp : tmps.getD p undef = .pointer (some ⟨g, 0, none⟩)) (hg : w.heap[g]? = some (.cells cs t fr))
    (hu : P.underlying ty = some d) (hd : (match d with | .struct _ | .array _ _ => true | _ => false) = true) (hi : (P.info? ty).map (·.size) = some cs.size) :
    (results fn tmps).run P w = .ok (.tuple #[.agg cs, tmps.getD u undef, tmps.getD z undef]) w := by
  have hp' : tmps[p]?.getD undef = .pointer (some ⟨g, 0, none⟩) := by simpa using hp
  simp [results, h, hp', asAddr, Go.run_loadVar_row w g t ty cs fr d hg hu hd hi]
theorem infoR2 : (Tryd.prog.info? 73).map (·.size) = some 2 := by kernel_rfl
theorem build_rec0 (W : World) : (Instr.build 73 #[]).run Tryd.prog W = .ok (.agg #[.int .u64 0, .slice none 0 0]) W := by kernel_rfl
/-- A record's block. -/
def BoxR (W : World) (D : Nat) (o : Nat) (v : Value) : Prop := W.heap[D]? = some (.cells #[.int .u64 (o : Nat), v] 73 (0, 0))
section
variable {W W' : World} {D o : Nat} {v : Value}
theorem BoxR.c0 (h : BoxR W D o v) : W.cell? ⟨D, 0, none⟩ = some (.int .u64 (o : Nat)) := by simp [World.cell?, show W.heap[D]? = _ from h]
theorem BoxR.c1 (h : BoxR W D o v) : W.cell? ⟨D, 1, none⟩ = some v := by simp [World.cell?, show W.heap[D]? = _ from h]
theorem BoxR.fz (h : BoxR W D o v) (i : Nat) : W.frozen? ⟨D, i, none⟩ = false := by simp [World.frozen?, show W.heap[D]? = _ from h]
theorem BoxR.kept {S : Nat → Prop} (h : BoxR W D o v) (hk : Kept S W W') (hS : ¬ S D) : BoxR W' D o v := hk.heap h hS
theorem BoxR.put (h : BoxR W D o v) (o' : Nat) (v' : Value) : BoxR ((W.setCell ⟨D, 0, none⟩ (.int .u64 (o' : Nat))).setCell ⟨D, 1, none⟩ v') D o' v' := by
  unfold BoxR World.setCell; simp only [Array.getElem?_modify, if_true, show W.heap[D]? = _ from h]; rfl
end
def TakeShort (w : World) (e : Ending) (w' : World) : Prop := e = .returned (.tuple #[.agg #[.int .u64 0, .slice none 0 0], .int .i64 0, .int .i64 3]) ∧ Kept (fun _ => False) w w'
set_option maxRecDepth 100000 in
set_option maxHeartbeats 4000000 in
theorem fTake_less (w : World) (A : Option Addr) (n c : Nat) (h : n < 16) : Calls Tryd.prog 61 #[.slice A n c] w (TakeShort w) := by
  have hn9 : (n : Int) < 16 := by omega
  have hb := fun W => build_rec0 W
  go_enter Tryd.func61, Tryd.ntmps61
  go_upto_region 1 with fail
  obtain ⟨D, hD⟩ : ∃ D, D = w.heap.size := ⟨_, rfl⟩
  obtain ⟨w0, hw0⟩ : ∃ w0, w0 = w.alloc (.cells #[.int .u64 0, .slice none 0 0] 73) := ⟨_, rfl⟩
  have HB : Hid (BoxR w0 D 0 (.slice none 0 0)) := Lib.hid (by rw [hw0, hD]; exact heap_alloc_new w _)
  have HK : Hid (Kept (fun _ => False) w w0) := Lib.hid (by rw [hw0]; exact (Kept.refl _ w).alloc _)
  have HD := Lib.hid hD
  rw [← hw0, ← hD]
  clear hw0 hD h
  have c0 := HB.out.c0
  have c1 := HB.out.c1
  have f0 := HB.out.fz
  go_wp2
  refine bodyPost_ret (v := .tuple #[.agg #[.int .u64 0, .slice none 0 0], .int .i64 0, .int .i64 3]) (results_row_tmp2 (u := 3) (z := 4) rfl _ _ D 73 _ (0, 0) _ rfl (HB.out.put 0 (.slice none 0 0)) Tryd.underlying73 rfl infoR2) rfl ⟨rfl, ?_⟩
  exact HK.out.trans ((kF w0 D 0 _).trans' (kF _ D 1 _)) fun i hi e => by have := HD.out; omega
theorem slice_toB (W : World) (A : Option Addr) (l n c : Nat) (hn : n ≤ c) : (Instr.slice 31 (.slice A l c) none (some (.int .i64 n)) none).run Tryd.prog W = .ok (.slice A n c) W := by
  have hsz : ∀ W, (sizeOf 5).run Tryd.prog W = .ok 1 W := fun W => by kernel_rfl
  have h1 : (0 : Int) ≤ (n : Int) ∧ (n : Int) ≤ (c : Int) := by omega
  simp only [Instr.slice, Sem.run_bind, run_underlying Tryd.underlying31, Result.andThen, Instr.sliceBounds, Instr.sliceBound, asIntOf, Sem.run_pure, if_pos h1, hsz, Int.toNat_natCast, Nat.zero_mul, Nat.sub_zero]
  split
  · rfl
  · rw [add0 A]
/-- The first four bytes. -/
theorem fTake_len {w : World} {A : Option Addr} {n c : Nat} {off : Nat} {d b : List UInt8} (hn : n = b.length) (hb : Bs w A b) (hd : d.length ≤ 32768) (h16 : 16 ≤ n) (hp : b.take 4 = (frameB off d).take 4) : ∀ W, Kept (fun _ => False) w W → Calls Tryd.prog 73 #[.slice A 4 c] W fun e w' => e = .returned (.int .u64 (d.length : Nat)) ∧ w' = W := by
  intro W hk
  have h4 : b.take 4 = numN 4 d.length := by rw [hp, frameB]; exact List.take_left' (numN_len _ _)
  have h1 := takeN_any W A 4 c (b.take 4) (by rw [List.length_take]; omega) (by omega) (bs_take (hb.kept hk (by simp)) 4)
  rwa [h4, takeV_num 4 d.length (by show _ < 2 ^ 32; omega)] at h1
set_option maxRecDepth 100000 in
set_option maxHeartbeats 4000000 in
theorem fTake_part (w : World) (A : Option Addr) (n c : Nat) (off : Nat) (d b : List UInt8) (hn : n = b.length) (hc : n ≤ c) (hb : Bs w A b) (hd : d.length ≤ 32768) (h16 : 16 ≤ n) (hlt : n < (frameB off d).length) (hp : b = (frameB off d).take n) : Calls Tryd.prog 61 #[.slice A n c] w (TakeShort w) := by
  have hbu := fun W => build_rec0 W
  have hs4 := fun W => slice_toB W A n 4 c (by omega)
  have HT := Lib.hid (fTake_len (c := c) hn hb hd h16 (by rw [hp, List.take_take, show min 4 n = 4 by omega]))
  rw [frameB_len] at hlt
  obtain ⟨m, hm⟩ : ∃ m, m = d.length := ⟨_, rfl⟩
  rw [← hm] at HT hlt hd
  have hn9 : ¬ (n : Int) < 16 := by omega
  have hm1 : ¬ (32768 : Int) < (m : Int) := by omega
  have hm2 : (n : Int) - 16 < (m : Int) := by omega
  have hn8 : (n : Int) ≤ 40000 := by omega
  have hc4 : (4 : Int) ≤ (c : Int) := by omega
  have hw : IntKind.u64.wrap ((n : Int) - 16) = (n : Int) - 16 := by rw [IntKind.wrap_u64]; omega
  clear hn hb hp hm hlt h16 hc hd
  go_enter Tryd.func61, Tryd.ntmps61
  go_upto_region 1 with fail
  obtain ⟨D, hD⟩ : ∃ D, D = w.heap.size := ⟨_, rfl⟩
  obtain ⟨w0, hw0⟩ : ∃ w0, w0 = w.alloc (.cells #[.int .u64 0, .slice none 0 0] 73) := ⟨_, rfl⟩
  have HB : Hid (BoxR w0 D 0 (.slice none 0 0)) := Lib.hid (by rw [hw0, hD]; exact heap_alloc_new w _)
  have HK : Hid (Kept (fun _ => False) w w0) := Lib.hid (by rw [hw0]; exact (Kept.refl _ w).alloc _)
  have HD := Lib.hid hD
  rw [← hw0, ← hD]
  clear hw0 hD
  have c0 := HB.out.c0
  have c1 := HB.out.c1
  have f0 := HB.out.fz
  go_wp2_with (go_at_call 73; refine (HT.out w0 HK.out).mono ?_; rintro e w0 ⟨rfl, rfl⟩)
  refine bodyPost_ret (v := .tuple #[.agg #[.int .u64 0, .slice none 0 0], .int .i64 0, .int .i64 3]) (results_row_tmp2 (u := 3) (z := 4) rfl _ _ D 73 _ (0, 0) _ rfl (HB.out.put 0 (.slice none 0 0)) Tryd.underlying73 rfl infoR2) rfl ⟨rfl, ?_⟩
  exact HK.out.trans ((kF w0 D 0 _).trans' (kF _ D 1 _)) fun i hi e => by have := HD.out; omega
theorem build_rec (W : World) (o : Int) (v : Value) (A : Option Addr) (n c : Nat) (hv : v = .slice A n c) : (Instr.build 73 #[(0, .int .u64 o), (1, v)]).run Tryd.prog W = .ok (.agg #[.int .u64 o, v]) W := by subst hv; kernel_rfl
def TakeOk (w : World) (off : Nat) (d : List UInt8) (e : Ending) (w' : World) : Prop := ∃ V, e = .returned (.tuple #[.agg #[.int .u64 (off : Nat), V], .int .i64 ((16 + d.length : Nat) : Int), .int .i64 0]) ∧ w'.ownsRow w.heap.size 5 1 V d.length (d.map bv) ∧ Kept (fun _ => False) w w'
set_option maxRecDepth 100000 in
set_option maxHeartbeats 8000000 in
theorem fTake_ok (w : World) (A : Option Addr) (n c : Nat) (off : Nat) (d post b : List UInt8) (hn : n = b.length) (hn9 : n ≤ 1000000000) (hc : n ≤ c) (hA : A = none → c = 0) (hb : Bs w A b) (hd : d.length ≤ 32768) (ho : off < 18446744073709551616) (hp : b = frameB off d ++ post) : Calls Tryd.prog 61 #[.slice A n c] w (TakeOk w off d) := by
  have hbu := fun W => build_rec0 W
  have hl := frameB_len off d
  have hln : (frameB off d).length ≤ n := by rw [hn, hp, List.length_append]; omega
  have HT := Lib.hid (fTake_len (c := c) hn hb hd (by omega) (by rw [hp, List.take_append_of_le_length (by omega)]))
  obtain ⟨m, hm⟩ : ∃ m, m = d.length := ⟨_, rfl⟩
  obtain ⟨en, hen⟩ : ∃ en, en = 16 + m := ⟨_, rfl⟩
  have hs4 := fun W => slice_toB W A n 4 c (by omega)
  obtain ⟨A2, hs2, hb2, hA2, -⟩ := midB_form A n 8 en c b hn (by omega) (by omega) hc hA
  obtain ⟨A3, hs3, hb3, hA3, -⟩ := midB_form A n 4 8 c b hn (by omega) (by omega) hc hA
  obtain ⟨A4, hs5, hb4, hA4, -⟩ := midB_form A n 8 16 c b hn (by omega) (by omega) hc hA
  obtain ⟨A5, hs6, hb5, hA5, -⟩ := midB_form A n 16 en c b hn (by omega) (by omega) hc hA
  have e2 : (b.drop 8).take (en - 8) = restB off d := by
    rw [hp, frameB, List.append_assoc, List.append_assoc, ← List.append_assoc (numN 4 _), List.drop_left' (by simp [numN_len]), List.take_left' (by rw [restB_len]; omega)]
  have e3 : (b.drop 4).take (8 - 4) = numN 4 (crcN (restB off d)) := by
    rw [hp, frameB, List.append_assoc, List.append_assoc, List.drop_left' (numN_len _ _), List.take_left' (numN_len _ _)]
  have e4 : (b.drop 8).take (16 - 8) = numN 8 off := by
    rw [hp, frameB, List.append_assoc, List.append_assoc, ← List.append_assoc (numN 4 _), List.drop_left' (by simp [numN_len]), restB, List.append_assoc, List.take_left' (numN_len _ _)]
  have e5 : (b.drop 16).take (en - 16) = d := by
    have e6 : frameB off d ++ post = (numN 4 d.length ++ numN 4 (crcN (restB off d)) ++ numN 8 off) ++ (d ++ post) := by
      rw [show frameB off d = numN 4 d.length ++ (numN 4 (crcN (restB off d)) ++ (numN 8 off ++ d)) from rfl]
      simp only [List.append_assoc]
    rw [hp, e6, List.drop_left' (by simp [numN_len]), List.take_left' (by omega)]
  rw [e2] at hb2; rw [e3] at hb3; rw [e4] at hb4; rw [e5] at hb5
  obtain ⟨c2, hc2⟩ : ∃ c2, c2 = c - 8 := ⟨_, rfl⟩
  obtain ⟨c3, hc3⟩ : ∃ c3, c3 = c - 4 := ⟨_, rfl⟩
  obtain ⟨c5, hc5⟩ : ∃ c5, c5 = c - 16 := ⟨_, rfl⟩
  obtain ⟨n2, hn2⟩ : ∃ n2, n2 = en - 8 := ⟨_, rfl⟩
  rw [← hc2, ← hn2] at hs2
  rw [← hc2] at hs5 hA2 hA4
  rw [← hc3] at hs3 hA3
  rw [← hc5, show en - 16 = m by omega] at hs6
  rw [← hc5] at hA5
  rw [← hm] at HT
  have hcr : crcN (restB off d) < 4294967296 := crcN_lt _
  obtain ⟨cr, hcre⟩ : ∃ cr, cr = crcN (restB off d) := ⟨_, rfl⟩
  have HC : Hid (∀ W, Kept (fun _ => False) w W → Calls Tryd.prog 53 #[.slice A2 n2 c2] W fun e w' => e = .returned (.int .u32 (cr : Nat)) ∧ Kept (fun _ => False) W w') := Lib.hid fun W hk => by
    rw [hcre]; exact crcSum_any W A2 n2 c2 _ (by rw [restB_len]; omega) (by omega) (hb2 W (hb.kept hk (by simp)))
  have HT3 : Hid (∀ W, Kept (fun _ => False) w W → Calls Tryd.prog 73 #[.slice A3 4 c3] W fun e w' => e = .returned (.int .u64 (cr : Nat)) ∧ w' = W) := Lib.hid fun W hk => by
    have h1 := takeN_any W A3 4 c3 _ (by rw [numN_len]) (by omega) (hb3 W (hb.kept hk (by simp)))
    rwa [takeV_num 4 _ (by show _ < 2 ^ 32; omega), ← hcre] at h1
  have HT4 : Hid (∀ W, Kept (fun _ => False) w W → Calls Tryd.prog 73 #[.slice A4 8 c2] W fun e w' => e = .returned (.int .u64 (off : Nat)) ∧ w' = W) := Lib.hid fun W hk => by
    have h1 := takeN_any W A4 8 c2 _ (by rw [numN_len]) (by omega) (hb4 W (hb.kept hk (by simp)))
    rwa [takeV_num 8 off (by show _ < 2 ^ 64; omega)] at h1
  have HCl : Hid (∀ W, Kept (fun _ => False) w W → Calls Tryd.prog 35 #[.slice A5 m c5] W (ClonePost W d)) := Lib.hid fun W hk => clone_any W A5 m c5 d hm (by omega) (hb5 W (hb.kept hk (by simp))) (fun e => by have := hA5 e; omega)
  have hn9' : ¬ (n : Int) < 16 := by omega
  have hm1 : ¬ (32768 : Int) < (m : Int) := by omega
  have hm2 : ¬ (n : Int) - 16 < (m : Int) := by omega
  have hn8 : (n : Int) ≤ 1000000000 := by omega
  have hc4 : (4 : Int) ≤ (c : Int) := by omega
  have hw : IntKind.u64.wrap ((n : Int) - 16) = (n : Int) - 16 := by rw [IntKind.wrap_u64]; omega
  have hw2 : IntKind.i64.wrap (16 + (m : Int)) = (en : Int) := by rw [IntKind.wrap_i64]; omega
  have hw3 : IntKind.i64.wrap (m : Int) = (m : Int) := by rw [IntKind.wrap_i64]; omega
  have hw4 : IntKind.u64.wrap (cr : Int) = (cr : Int) := by rw [IntKind.wrap_u64]; omega
  have Hen := Lib.hid (And.intro hen hm)
  have hs2' : ∀ W, (Instr.slice 31 (.slice A n c) (some (.int .i64 8)) (some (.int .i64 (en : Nat))) none).run Tryd.prog W = .ok (.slice A2 n2 c2) W := hs2
  have hs3' : ∀ W, (Instr.slice 31 (.slice A n c) (some (.int .i64 4)) (some (.int .i64 8)) none).run Tryd.prog W = .ok (.slice A3 4 c3) W := hs3
  have hs5' : ∀ W, (Instr.slice 31 (.slice A n c) (some (.int .i64 8)) (some (.int .i64 16)) none).run Tryd.prog W = .ok (.slice A4 8 c2) W := hs5
  have hs6' : ∀ W, (Instr.slice 31 (.slice A n c) (some (.int .i64 16)) (some (.int .i64 (en : Nat))) none).run Tryd.prog W = .ok (.slice A5 m c5) W := hs6
  clear hn hb hp hm hln hl hc hd hb2 hb3 hb4 hb5 e2 e3 e4 e5 hA2 hA3 hA4 hA5 hc2 hc3 hc5 hn2 hen hcr hcre hA ho hs2 hs3 hs5 hs6
  go_enter Tryd.func61, Tryd.ntmps61
  go_upto_region 1 with fail
  obtain ⟨D, hD⟩ : ∃ D, D = w.heap.size := ⟨_, rfl⟩
  obtain ⟨w0, hw0⟩ : ∃ w0, w0 = w.alloc (.cells #[.int .u64 0, .slice none 0 0] 73) := ⟨_, rfl⟩
  have HB : Hid (BoxR w0 D 0 (.slice none 0 0)) := Lib.hid (by rw [hw0, hD]; exact heap_alloc_new w _)
  have HK : Hid (Kept (fun _ => False) w w0) := Lib.hid (by rw [hw0]; exact (Kept.refl _ w).alloc _)
  have HD := Lib.hid hD
  rw [← hw0, ← hD]
  clear hw0 hD
  go_upto_region 9 with (go_at_call 73; refine (HT.out w0 HK.out).mono ?_; rintro e w0 ⟨rfl, rfl⟩)
  go_region_held3 (fun _ => True) (first | assumption | trivial | simp [*]) (first
    | (go_at_call 53; refine (HC.out _ HK.out.drew).mono ?_; rintro e w1 ⟨rfl, hk1⟩; have HK1 := Lib.hid (HK.out.drew.trans' hk1); have HKa := Lib.hid ((Kept.refl (fun _ => False) w0).drew.trans' hk1); clear hk1)
    | (go_at_call 73; refine (HT3.out w1 HK1.out).mono ?_; rintro e w1 ⟨rfl, rfl⟩))
  have hbr : ∀ (W : World) A9 c9, (Instr.build 73 #[(0, .int .u64 (off : Nat)), (1, .slice A9 d.length c9)]).run Tryd.prog W = .ok (.agg #[.int .u64 (off : Nat), .slice A9 d.length c9]) W := fun W A9 c9 => build_rec W _ _ A9 d.length c9 rfl
  go_upto_region 11 with fail
  go_region_held3 (fun _ => True) (first | assumption | trivial | simp [*]) (first
    | (go_at_call 73; refine (HT4.out w1.drew HK1.out.drew).mono ?_; rintro e w2 ⟨rfl, hw2⟩; have HK2 : Hid (Kept (fun _ => False) w w2) := Lib.hid (by rw [hw2]; exact HK1.out.drew); have HKb : Hid (Kept (fun _ => False) w0 w2) := Lib.hid (by rw [hw2]; exact HKa.out.drew); clear hw2)
    | (go_at_call 35; refine (HCl.out w2 HK2.out).mono ?_; rintro e w3 hP; obtain ⟨A9, c9, rfl, ha, -, -⟩ := ClonePost.acc hP; have HA := Lib.hid ha; have HB3 := Lib.hid ((HB.out.kept HKb.out (by simp)).kept ha.2 (by simp)); have c0 := HB3.out.c0; have c1 := HB3.out.c1; have f0 := HB3.out.fz; have hbr9 := fun W => hbr W A9 c9; clear hP ha))
  go_wp2
  have hE := Hen.out
  refine bodyPost_ret (v := .tuple #[.agg #[.int .u64 (off : Nat), .slice A9 d.length c9], .int .i64 (en : Nat), .int .i64 0]) (results_row_tmp2 (u := 3) (z := 4) rfl _ _ D 73 _ (0, 0) _ rfl (HB3.out.put off _) Tryd.underlying73 rfl infoR2) rfl ⟨.slice A9 d.length c9, by rw [show 16 + d.length = en by omega], ?_, ?_⟩
  · have h1 := own_low HA.out.1 HK2.out.size
    refine own_kept h1 ((kF w3 D 0 _).trans' (kF _ D 1 _)) fun k e e2 => ?_
    have h2 := own_ge HA.out.1 k e
    have h3 := HKb.out.size
    have h4 : D < w0.heap.size := (Array.getElem?_eq_some_iff.1 (show w0.heap[D]? = _ from HB.out)).1
    omega
  · exact (HK2.out.trans' HA.out.2).trans ((kF w3 D 0 _).trans' (kF _ D 1 _)) fun i hi e => by have := HD.out; omega
end Go.Proofs.YtefpigakhhfcaaaDoor
end
