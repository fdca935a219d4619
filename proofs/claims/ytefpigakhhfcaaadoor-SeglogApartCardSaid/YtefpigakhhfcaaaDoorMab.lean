import Derived.Test.YtefpigakhhfcaaaDoorProg
import Derived.Test.YtefpigakhhfcaaaDoorMaa
import Derived.WalkSpells
import Derived.WalkLawsBesides
import Derived.Lib.Bytealg
import Derived.Lib.IndexBytes
import Derived.Lib.Strings
import Derived.OwnWalkIn
import Derived.TacticsInMore
import Derived.LoopNIn
import Derived.LoopIn
import Derived.Shelf.Abstract
/-! Names: what names.Simple and names.Full answer, for every text. -/
section
set_option linter.unusedVariables false
set_option linter.unusedSimpArgs false
namespace Go.Proofs.YtefpigakhhfcaaaDoor
open Go.RowKit Go.Shelf
attribute [local go_sem] Oper.semAt_some

theorem ret_int {k : IntKind} {a b : Int} (h : a = b) : Ending.returned (.int k a) = .returned (.int k b) := by rw [h]
theorem ret_bool {a b : Bool} (h : a = b) : Ending.returned (.bool a) = .returned (.bool b) := by rw [h]

def okC (k : Nat) (c : UInt8) : Bool := decide ((97 ≤ c.toNat ∧ c.toNat ≤ 122) ∨ (65 ≤ c.toNat ∧ c.toNat ≤ 90) ∨ c.toNat = 95 ∨ (0 < k ∧ 48 ≤ c.toNat ∧ c.toNat ≤ 57))
def okFrom : Nat → List UInt8 → Bool
  | _, [] => true
  | k, c :: l => okC k c && okFrom (k + 1) l
/-- P3.1: a simple name. -/
def simpleB (l : List UInt8) : Bool := okFrom 0 l && decide (0 < l.length) && decide (l.length ≤ 100)

theorem okFrom_drop (l : List UInt8) : ∀ k j, (h : j < l.length) → okFrom k (l.drop j) = (okC k l[j] && okFrom (k + 1) (l.drop (j + 1))) := by
  intro k j h
  rw [List.drop_eq_getElem_cons h]; rfl

set_option maxHeartbeats 1000000 in
theorem simple_any (s : ByteArray) (w : World) (hs : s.size ≤ 1000000) :
    Calls Tryd.prog 44 #[.string s] w fun e w' => e = .returned (.bool (simpleB s.data.toList)) ∧ w' = w := by
  go_enter Tryd.func44, Tryd.ntmps44
  go_wp2
  go_loop [3, 4, 7, 13] (fun _ _ i _ => ∃ k : Nat, k ≤ s.size ∧ i = .int .i64 k ∧ Hid (okFrom 0 s.data.toList = okFrom k (s.data.toList.drop k))) (fun _ _ i _ => s.size - (intOf i).toNat)
  case atStart => exact ⟨0, Nat.zero_le _, rfl, Lib.hid rfl⟩
  case round =>
    obtain ⟨k, hk, rfl, hO⟩ := hrel
    by_cases hlt : k < s.size
    · have hk9 : (k : Int) < (s.size : Int) := by omega
      have hl : k < s.data.toList.length := by simpa using hlt
      have hd := okFrom_drop s.data.toList k k hl
      have hg : s.data.toList[k]'hl = s[k] := rfl
      rw [hg] at hd
      cases hc : okC k s[k] with
      | true =>
        have hz := of_decide_eq_true hc
        have hO' : Hid (okFrom 0 s.data.toList = okFrom (k + 1) (s.data.toList.drop (k + 1))) := by rw [hO.out, hd, hc]; rfl
        clear hd hc hO hg
        generalize hzz : s[k].toNat = z at hz
        have hz9 : (97 ≤ (z : Int) ∧ (z : Int) ≤ 122) ∨ (65 ≤ (z : Int) ∧ (z : Int) ≤ 90) ∨ (z : Int) = 95 ∨ (0 < (k : Int) ∧ 48 ≤ (z : Int) ∧ (z : Int) ≤ 57) := by omega
        go_wp2
        all_goals
          go_round
          case rel => exact ⟨k + 1, by omega, by go_num, hO'⟩
          case measure => simp [intOf]; omega
      | false =>
        have hz := of_decide_eq_false hc
        have hS : Hid (simpleB s.data.toList = false) := by
          unfold simpleB; rw [hO.out, hd, hc]; rfl
        clear hd hc hO hg
        generalize hzz : s[k].toNat = z at hz
        have hz9 : ¬ ((97 ≤ (z : Int) ∧ (z : Int) ≤ 122) ∨ (65 ≤ (z : Int) ∧ (z : Int) ≤ 90) ∨ (z : Int) = 95 ∨ (0 < (k : Int) ∧ 48 ≤ (z : Int) ∧ (z : Int) ≤ 57)) := by omega
        have hz0 : ((z : Int) == 95) = false := by rw [beq_eq_false_iff_ne]; omega
        go_wp2
        all_goals
          go_ret
          exact ⟨ret_bool hS.out.symm, rfl⟩
    · obtain rfl : k = s.size := by omega
      have hS := Lib.hid (show simpleB s.data.toList = (decide (0 < s.size) && decide (s.size ≤ 100)) by
        unfold simpleB; rw [hO.out, List.drop_of_length_le (by simp)]; simp [okFrom])
      clear hO
      by_cases h1 : 0 < s.size
      · have h9 : (0 : Int) < (s.size : Int) := by omega
        by_cases h2 : s.size ≤ 100
        · have h8 : (s.size : Int) ≤ 100 := by omega
          go_wp2
          go_ret
          exact ⟨ret_bool (by rw [hS.out]; simp [h1, h2]), rfl⟩
        · have h8 : ¬ (s.size : Int) ≤ 100 := by omega
          go_wp2
          go_ret
          exact ⟨ret_bool (by rw [hS.out]; simp [h2]), rfl⟩
      · have h9 : ¬ (0 : Int) < (s.size : Int) := by omega
        go_wp2
        go_ret
        exact ⟨ret_bool (by rw [hS.out]; simp [h1]), rfl⟩

/-! ### Pieces -/
def dot : ByteArray := ⟨#[46]⟩
theorem bindexb_run (s : ByteArray) (c : Int) (w : World) : (callFunc 72 #[.string s, .int .u8 c]).run Tryd.prog w = .ok (.value (.int .i64 (Lib.indexByte s.data.toList c.toNat.toUInt8))) w := by
  rw [run_callFunc_extern Tryd.func72 (by kernel_rfl) (by kernel_rfl) (by kernel_rfl) (e := Extern.BytealgIndexByte.indexByte) (by kernel_rfl), Lib.run_indexByteString]
  rfl
set_option maxHeartbeats 1000000 in
theorem indexb_any (s : ByteArray) (c : Int) (w : World) :
    Calls Tryd.prog 60 #[.string s, .int .u8 c] w fun e w' => e = .returned (.int .i64 (Lib.indexByte s.data.toList c.toNat.toUInt8)) ∧ w' = w := by
  have hr := bindexb_run s c w
  go_enter Tryd.func60, Tryd.ntmps60
  go_wp2
  go_ret
  exact ⟨rfl, rfl⟩
theorem indexb_dot (s : ByteArray) (w : World) :
    Calls Tryd.prog 60 #[.string s, .int .u8 46] w fun e w' => e = .returned (.int .i64 (Lib.indexByte s.data.toList 46)) ∧ w' = w := indexb_any s 46 w

set_option maxRecDepth 100000 in
set_option maxHeartbeats 1000000 in
theorem sindex_dot (s : ByteArray) (w : World) :
    Calls Tryd.prog 78 #[.string s, .string dot] w fun e w' => e = .returned (.int .i64 (Lib.indexByte s.data.toList 46)) ∧ w' = w := by
  unfold dot
  go_enter Tryd.func78, Tryd.ntmps78
  go_wp2_with (go_at_call 60; refine (indexb_dot _ _).mono ?_; rintro e w' ⟨rfl, rfl⟩)
  · have h : ([46] == s.toList) = true := by assumption
    go_ret
    refine ⟨ret_int ?_, rfl⟩
    have e : s.data.toList = [46] := by rw [← Lib.toList_data]; exact (beq_iff_eq.1 h).symm
    rw [e]
    simp [Lib.indexByte]
  · go_ret
    exact ⟨rfl, rfl⟩
set_option maxHeartbeats 1000000 in
theorem index_dot (s : ByteArray) (w : World) :
    Calls Tryd.prog 67 #[.string s, .string dot] w fun e w' => e = .returned (.int .i64 (Lib.indexByte s.data.toList 46)) ∧ w' = w := by
  obtain ⟨d, hd⟩ : ∃ d, d = dot := ⟨_, rfl⟩
  have H := Lib.hid (sindex_dot s w)
  rw [← hd] at H ⊢
  clear hd
  go_enter Tryd.func67, Tryd.ntmps67
  go_wp2_with (go_at_call 78; refine H.out.mono ?_; rintro e w' ⟨rfl, rfl⟩)
  go_ret
  exact ⟨rfl, rfl⟩

def cutP : List UInt8 → List (List UInt8)
  | [] => [[]]
  | c :: l => if c == 46 then [] :: cutP l else match cutP l with | p :: ps => (c :: p) :: ps | [] => [[c]]
theorem cutP_none : ∀ l : List UInt8, Lib.indexByte l 46 = -1 → cutP l = [l] := by
  intro l
  induction l with
  | nil => intro _; rfl
  | cons c l ih =>
    intro h
    unfold Lib.indexByte at h
    split at h
    · omega
    · rename_i hc
      split at h
      · rename_i h1
        rw [cutP, if_neg hc, ih (by simpa using h1)]
      · rename_i h1
        have := Lib.indexByte_ge l 46
        exact absurd (show Lib.indexByte l 46 = -1 by omega) (by simpa using h1)
theorem cutP_some : ∀ (l : List UInt8) (i : Nat), Lib.indexByte l 46 = i → i < l.length ∧ cutP l = l.take i :: cutP (l.drop (i + 1)) := by
  intro l
  induction l with
  | nil => intro i h; simp [Lib.indexByte] at h
  | cons c l ih =>
    intro i h
    unfold Lib.indexByte at h
    split at h
    · rename_i hc
      obtain rfl : i = 0 := by omega
      exact ⟨by simp, by rw [cutP, if_pos hc]; try simp⟩
    · rename_i hc
      split at h
      · omega
      · obtain ⟨j, rfl⟩ : ∃ j, i = j + 1 := ⟨i - 1, by have := Lib.indexByte_ge l 46; rename_i h2; simp at h2; omega⟩
        obtain ⟨h1, h2⟩ := ih j (by omega)
        refine ⟨by simp; omega, ?_⟩
        rw [cutP, if_neg hc, h2]; simp
def mkS (l : List UInt8) : ByteArray := ⟨l.toArray⟩
def pieces (s : ByteArray) : List ByteArray := (cutP s.data.toList).map mkS
theorem pieces_none (s : ByteArray) (h : Lib.indexByte s.data.toList 46 = -1) : pieces s = [s] := by
  unfold pieces; rw [cutP_none _ h]; rfl
theorem pieces_some (s : ByteArray) (i : Nat) (h : Lib.indexByte s.data.toList 46 = i) : i < s.size ∧ pieces s = s.extract 0 i :: pieces (s.extract (i + 1) s.size) := by
  obtain ⟨h1, h2⟩ := cutP_some _ i h
  refine ⟨by simpa using h1, ?_⟩
  unfold pieces
  rw [h2, Lib.extract_to_end]
  simp only [List.map_cons, List.cons.injEq, and_true]
  rw [Lib.extract_eq]; rfl

def strOf : Option Value → Nat
  | some (.string r) => r.size
  | _ => 0
set_option maxRecDepth 100000 in
set_option maxHeartbeats 1000000 in
/-- strings.splitSeq's closure at sep "." and sepSave 0: all pieces, in order. Bs: the box of what is left; Bp: of sep; Bn: of sepSave. -/
theorem split1_iter (Bp Bs Bn : Nat) (s : ByteArray) (hs : s.size ≤ 1000000) (w : World) (hp : Boxed w Bp 9 (.string dot)) (hb : Boxed w Bs 9 (.string s)) (hn : Boxed w Bn 3 (.int .i64 0)) (h1 : Bp ≠ Bs) (h2 : Bn ≠ Bs) :
    Iter Tryd.prog 65 #[.pointer (some ⟨Bp, 0, none⟩), .pointer (some ⟨Bs, 0, none⟩), .pointer (some ⟨Bn, 0, none⟩)] (fun x : ByteArray => #[.string x]) (fun k => k = Bs) (fun k => k = Bs ∨ k = Bp ∨ k = Bn) (pieces s) w := by
  intro l J Jx W hW hJ hJx hY h0
  refine callsIn_of_wp Tryd.func65 rfl trivial ?_ rfl
  have hp' : Boxed W Bp 9 (.string dot) := hW.heap hp (by simp)
  have hb' : Boxed W Bs 9 (.string s) := hW.heap hb (by simp)
  have hn' : Boxed W Bn 3 (.int .i64 0) := hW.heap hn (by simp)
  have hcp := hp'.cell
  have hds : dot.size = 1 := rfl
  have HP := Lib.hid hp'
  have HB := Lib.hid hb'
  have HN := Lib.hid hn'
  clear hp hb hn hp' hb' hn'
  simp only [Tryd.ntmps65, List.size_toArray, List.length_cons, List.length_nil, Nat.reduceAdd, Nat.reduceSub, Array.replicate_succ, Array.replicate_zero, List.push_toArray, List.append_toArray, List.nil_append, List.cons_append]
  gi_wp2
  gi_loopw [7, 8] (fun _ _ wr => ∃ (pre : List ByteArray) (r : ByteArray), Hid (pieces s = pre ++ pieces r) ∧ r.size ≤ s.size ∧ Boxed wr Bs 9 (.string r) ∧ Boxed wr Bp 9 (.string dot) ∧ Boxed wr Bn 3 (.int .i64 0) ∧ J pre wr)
    (fun _ _ wr => strOf (wr.cell? ⟨Bs, 0, none⟩))
  case atStart => exact ⟨[], s, Lib.hid rfl, Nat.le_refl _, HB.out, HP.out, HN.out, h0⟩
  case round =>
    obtain ⟨pre, r, hpr, hrs, hbr, hpp, hnn, hj⟩ := hrel
    have hcs := hbr.cell
    have hcn := hnn.cell
    have hfs := hbr.frozen
    have hcq := hpp.cell
    have HBR := Lib.hid hbr
    have HPP := Lib.hid hpp
    have HNN := Lib.hid hnn
    clear hbr hpp hnn hcp
    have HI := Lib.hid (index_dot r wr)
    have hge := Lib.indexByte_ge r.data.toList 46
    obtain ⟨i, hi⟩ : ∃ i, i = Lib.indexByte r.data.toList 46 := ⟨_, rfl⟩
    rw [← hi] at HI hge
    have hi' := Lib.hid hi
    clear hi
    by_cases hneg : i < 0
    · obtain rfl : i = -1 := by omega
      have hpn := pieces_none r hi'.out.symm
      obtain ⟨fn, tmps, assign, body, hy, hR⟩ := hY pre r [] wr (by rw [hpr.out, hpn]) hj
      have HY := Lib.hid hR
      clear hR hpn
      gi_wp2_with (refine ⟨trivial, ?_⟩; gi_at_call 67; refine (callsIn_wide.2 HI.out).mono ?_; rintro e w' ⟨rfl, rfl⟩)
      refine HY.out.mono ?_
      rintro e W3 (⟨rfl, hJ3, _, hk3⟩ | ⟨rfl, hJx3⟩)
      · gi_wp2
        go_end0
        exact ⟨⟨_, rfl⟩, .inl (by rw [hpr.out, pieces_none r hi'.out.symm]; exact hJ3)⟩
      · gi_wp2
        go_end0
        exact ⟨⟨_, rfl⟩, .inr ⟨_, by rw [hpr.out, pieces_none r hi'.out.symm]; exact List.prefix_refl _, hJx3⟩⟩
    · obtain ⟨j, rfl⟩ : ∃ j : Nat, i = (j : Int) := ⟨i.toNat, by omega⟩
      obtain ⟨hjl, hps⟩ := pieces_some r j hi'.out.symm
      obtain ⟨fn, tmps, assign, body, hy, hR⟩ := hY pre (r.extract 0 j) (pieces (r.extract (j + 1) r.size)) wr (by rw [hpr.out, hps]) hj
      have HY := Lib.hid hR
      have HPS := Lib.hid hps
      have hj9 : (j : Int) ≤ (r.size : Int) := by omega
      have hj8 : (j : Int) + 1 ≤ (r.size : Int) := by omega
      have hrs9 : (r.size : Int) ≤ 1000000 := by omega
      clear hR hps
      gi_wp2_with (refine ⟨trivial, ?_⟩; gi_at_call 67; refine (callsIn_wide.2 HI.out).mono ?_; rintro e w' ⟨rfl, rfl⟩)
      refine HY.out.mono ?_
      rintro e W3 (⟨rfl, hJ3, _, hk3⟩ | ⟨rfl, hJx3⟩)
      · have hb3 : Boxed W3 Bs 9 (.string r) := (hk3 Bs (.inl rfl)).trans HBR.out
        have hp3 : Boxed W3 Bp 9 (.string dot) := (hk3 Bp (.inr (.inl rfl))).trans HPP.out
        have hn3 : Boxed W3 Bn 3 (.int .i64 0) := (hk3 Bn (.inr (.inr rfl))).trans HNN.out
        have hc31 := hb3.cell
        have hc32 := hp3.cell
        have hf3 := hb3.frozen
        have HB3 := Lib.hid hb3
        have HP3 := Lib.hid hp3
        have HN3 := Lib.hid hn3
        have HJ3 := Lib.hid hJ3
        clear hb3 hp3 hn3 hJ3 hk3 hj hcs hcn hfs hcq
        gi_wp2
        go_roundw
        case rel =>
          have hk : Kept (fun k => k = Bs) W3 (W3.setCell ⟨Bs, 0, none⟩ (.string (r.extract (j + 1) r.size))) := (Kept.refl (fun k => k = Bs) W3).setCell (p := ⟨Bs, 0, none⟩) (fun _ => rfl) _
          refine ⟨pre ++ [r.extract 0 j], r.extract (j + 1) r.size, Lib.hid (by rw [hpr.out, HPS.out]; simp), by simp; omega, HB3.out.set _, hk.heap HP3.out h1, hk.heap HN3.out h2, hJ _ _ _ HJ3.out hk⟩
        case measure =>
          rw [(HB3.out.set _).cell]
          simp [strOf, hc31]
          rw [HBR.out.cell]
          simp [strOf]
          omega
      · gi_wp2
        refine bodyPost_ret (results_none rfl _ _ _) rfl ?_
        exact ⟨⟨_, rfl⟩, .inr ⟨_, by rw [hpr.out, HPS.out]; exact ⟨pieces (r.extract (j + 1) r.size), by simp⟩, hJx3⟩⟩

set_option maxHeartbeats 1000000 in
theorem splitSeq0_any (s d : ByteArray) (w : World) :
    Calls Tryd.prog 56 #[.string s, .string d, .int .i64 0] w fun e w' => e = .returned (.func (.func 65) #[] #[.pointer (some ⟨w.heap.size + 1, 0, none⟩), .pointer (some ⟨w.heap.size, 0, none⟩), .pointer (some ⟨w.heap.size + 2, 0, none⟩)]) ∧ w' = ((w.alloc (.cells #[.string s] 9)).alloc (.cells #[.string d] 9)).alloc (.cells #[.int .i64 0] 3) := by
  go_enter Tryd.func56, Tryd.ntmps56
  go_wp2
  go_ret
  exact ⟨rfl, rfl⟩
set_option maxRecDepth 100000 in
set_option maxHeartbeats 1000000 in
theorem splitSeq_any (s d : ByteArray) (w : World) :
    Calls Tryd.prog 43 #[.string s, .string d] w fun e w' => e = .returned (.func (.func 65) #[] #[.pointer (some ⟨w.heap.size + 1, 0, none⟩), .pointer (some ⟨w.heap.size, 0, none⟩), .pointer (some ⟨w.heap.size + 2, 0, none⟩)]) ∧ w' = ((w.alloc (.cells #[.string s] 9)).alloc (.cells #[.string d] 9)).alloc (.cells #[.int .i64 0] 3) := by
  have H := Lib.hid (splitSeq0_any s d w)
  go_enter Tryd.func43, Tryd.ntmps43
  go_wp2_with (go_at_call 56; refine H.out.mono ?_; rintro e w' ⟨rfl, rfl⟩)
  go_ret
  exact ⟨rfl, rfl⟩
/-- P3.1: a full name. -/
def fullB (s : ByteArray) : Bool := decide (s.size ≤ 100) && (pieces s).all fun p => simpleB p.data.toList
theorem pieces_size (s : ByteArray) : ∀ p ∈ pieces s, p.size ≤ s.size := by
  intro p hp
  obtain ⟨l, hl, rfl⟩ := List.mem_map.1 hp
  have : ∀ (m : List UInt8), ∀ l ∈ cutP m, l.length ≤ m.length := by
    intro m
    induction m with
    | nil => intro l hl; simp [cutP] at hl; simp [hl]
    | cons c m ih =>
      intro l hl
      rw [cutP] at hl
      split at hl
      · rcases List.mem_cons.1 hl with rfl | hl
        · simp
        · have := ih l hl; simp; omega
      · split at hl
        · rename_i q qs hq
          rcases List.mem_cons.1 hl with rfl | hl
          · have := ih q (by rw [hq]; exact List.mem_cons_self ..); simp; omega
          · have := ih l (by rw [hq]; exact List.mem_cons_of_mem _ hl); simp; omega
        · simp at hl; simp [hl]
  have h := this _ l hl
  show l.toArray.size ≤ s.data.size
  simpa using h
set_option maxRecDepth 100000 in
set_option maxHeartbeats 1000000 in
theorem full_any (s : ByteArray) (w : World) (hs : s.size ≤ 140737488355328) :
    Calls Tryd.prog 21 #[.string s] w fun e w' => e = .returned (.bool (fullB s)) ∧ Kept (fun _ => False) w w' := by
  refine calls_of_marks Tryd.func21 rfl ?_
  simp only [Tryd.ntmps21, List.size_toArray, List.length_cons, List.length_nil, Nat.reduceAdd, Nat.reduceSub, Array.replicate_succ, Array.replicate_zero, List.push_toArray, List.append_toArray, List.nil_append, List.cons_append]
  by_cases hlen : s.size ≤ 100
  · have h9 : (s.size : Int) ≤ 100 := by omega
    have H := Lib.hid fun w => splitSeq_any s dot w
    go_wp2_with (go_at_call 43; refine (H.out _).mono ?_; rintro e w' ⟨rfl, rfl⟩)
    obtain ⟨W0, hW0⟩ : ∃ W0, W0 = (((w.alloc (.cells #[.bool false] 4)).alloc (.cells #[.string s] 9)).alloc (.cells #[.string dot] 9)).alloc (.cells #[.int .i64 0] 3) := ⟨_, rfl⟩
    rw [← hW0]
    obtain ⟨B, hB⟩ : ∃ B, B = w.heap.size := ⟨_, rfl⟩
    have hsz : W0.heap.size = B + 4 := by rw [hW0, hB]; simp
    have hkp : Kept (fun _ => False) w W0 := by rw [hW0]; exact ((((Kept.refl _ w).alloc _).alloc _).alloc _).alloc _
    have hres : Boxed W0 B 4 (.bool false) := by
      rw [hW0, hB]; exact (((Boxed.new w 4 (.bool false)).alloc _).alloc _).alloc _
    have hbs : Boxed W0 (B + 1) 9 (.string s) := by
      have := ((Boxed.new (w.alloc (.cells #[.bool false] 4)) 9 (.string s)).alloc (.cells #[.string dot] 9)).alloc (.cells #[.int .i64 0] 3)
      rw [hW0, hB]; simpa using this
    have hbp : Boxed W0 (B + 2) 9 (.string dot) := by
      have := (Boxed.new ((w.alloc (.cells #[.bool false] 4)).alloc (.cells #[.string s] 9)) 9 (.string dot)).alloc (.cells #[.int .i64 0] 3)
      rw [hW0, hB]; simpa using this
    have hbn : Boxed W0 (B + 3) 3 (.int .i64 0) := by
      have := Boxed.new (((w.alloc (.cells #[.bool false] 4)).alloc (.cells #[.string s] 9)).alloc (.cells #[.string dot] 9)) 3 (.int .i64 0)
      rw [hW0, hB]; simpa using this
    clear hW0
    rw [← hB]
    have HBw := Lib.hid hB
    clear hB H
    have hit := split1_iter (B + 2) (B + 1) (B + 3) s (by omega) W0 hbp hbs hbn (by omega) (by omega)
    refine wp_range (gf := 65) rfl (enters_of Tryd.func65 (by kernel_rfl) rfl) hit (fun _ => rfl) (fun k h => by omega) (fun k h => by omega)
      (fun pre W => (pre.all (fun p => simpleB p.data.toList)) = true ∧ Boxed W B 4 (.bool false) ∧ Kept (fun _ => False) w W)
      (fun c pre W => c = .ret ∧ fullB s = false ∧ Boxed W B 4 (.bool false) ∧ Kept (fun _ => False) w W)
      (fun pre A C h hk => ⟨h.1, hk.heap h.2.1 (by omega), h.2.2.trans hk (fun i hi h => by have := HBw.out; omega)⟩)
      (fun c pre A C h hk => ⟨h.1, h.2.1, hk.heap h.2.2.1 (by omega), h.2.2.2.trans hk (fun i hi h => by have := HBw.out; omega)⟩)
      ⟨rfl, hres, hkp⟩
      (fun x => { tmps := #[.string s, undef, .pointer (some ⟨B, 0, none⟩), .string x, .string s, .int .i64 s.size, .bool (decide ((100 : Int) < s.size)), .string s, .func (.func 65) #[] #[.pointer (some ⟨B + 1 + 1, 0, none⟩), .pointer (some ⟨B + 1, 0, none⟩), .pointer (some ⟨B + 1 + 2, 0, none⟩)], .string x, undef, undef, undef], defers := [] }) ?assign ?body ?done ?stop
    case assign =>
      intro l x W K hK
      gi_wp2
      exact hK
    case body =>
      rintro l pre x post W hxs ⟨hall, hb, hk⟩ hsz2
      have hxm : x.size ≤ 1000000 := by have := pieces_size s x (by rw [hxs]; simp); omega
      have hc := hb.cell
      have hf := hb.frozen
      have HB := Lib.hid hb
      have HK := Lib.hid hk
      have HX := Lib.hid hxs
      have HA := Lib.hid hall
      clear hb hk hxs hall
      have hlt := (Array.getElem?_eq_some_iff.1 HB.out).1
      cases hsx : simpleB x.data.toList with
      | true =>
        have HS := simple_any x W hxm
        rw [hsx] at HS
        have HS' := Lib.hid HS
        have Hsx := Lib.hid hsx
        clear HS hsx
        gi_wp2_with (refine ⟨trivial, ?_⟩; gi_at_call 44; refine (CallsIn.inRound l (callsIn_wide.2 HS'.out)).mono ?_; rintro e w' ⟨rfl, rfl⟩)
        exact ⟨⟨Nat.le_refl _, fun _ _ => rfl⟩, by rw [List.all_append, HA.out]; simp [Hsx.out], HB.out, HK.out⟩
      | false =>
        have HS := simple_any x W hxm
        rw [hsx] at HS
        have HS' := Lib.hid HS
        have Hsx := Lib.hid hsx
        clear HS hsx
        gi_wp2_with (refine ⟨trivial, ?_⟩; gi_at_call 44; refine (CallsIn.inRound l (callsIn_wide.2 HS'.out)).mono ?_; rintro e w' ⟨rfl, rfl⟩)
        refine ⟨fun k hk => Below.heap_setCell _ _ _ _ (by simp; omega), rfl, ?_, HB.out.set _, HK.out.setCell (p := ⟨B, 0, none⟩) (fun h => by have := HBw.out; simp at h; omega) _⟩
        unfold fullB
        rw [HX.out]; simp [Hsx.out]
    case done =>
      rintro W ⟨hall, hb, hk⟩ hD
      have hc := hb.cell
      have hf := hb.frozen
      have HB := Lib.hid hb
      have HK := Lib.hid hk
      have HD := Lib.hid hD
      have HA := Lib.hid hall
      clear hb hk hD hall
      go_wp2
      have hne : B ≠ W0.heap.size := by omega
      refine leave_mark ((Below.heap_setCell _ _ _ _ (by simp; omega)).trans HD.out) (results_cell1 rfl (fun w => by kernel_rfl) rfl (v := .bool true) ?_) ⟨?_, ?_⟩
      · exact Boxed.cell (show Boxed _ B 4 (.bool true) from (putObj_kept _ W0.heap.size _).heap (HB.out.set (.bool true)) (by omega))
      · unfold fullB; rw [HA.out]; simp [hlen]
      · exact (HK.out.setCell (p := ⟨B, 0, none⟩) (fun h => by have := HBw.out; simp at h; omega) _).putObj (fun h => by have := HBw.out; omega) _
    case stop =>
      rintro c pre W hpre ⟨rfl, hf, hb, hk⟩ hD
      go_wp2
      refine leave_mark hD (results_cell1 rfl (fun w => by kernel_rfl) rfl (v := .bool false) ?_) ⟨by rw [hf], ?_⟩
      · exact Boxed.cell (show Boxed _ B 4 (.bool false) from (putObj_kept _ W0.heap.size _).heap hb (by omega))
      · exact hk.putObj (fun h => by have := HBw.out; omega) _
  · have h9 : ¬ (s.size : Int) ≤ 100 := by omega
    go_wp2
    refine leave_none (results_cell1 rfl (fun w => by kernel_rfl) rfl (v := .bool false) (Boxed.new w 4 (.bool false)).cell) ⟨?_, (Kept.refl _ _).alloc _⟩
    unfold fullB; simp [hlen]
end Go.Proofs.YtefpigakhhfcaaaDoor
end
