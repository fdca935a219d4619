import Derived.Test.YthkncfdgfbnchaaDoorYb
import Derived.Laws.OwnMore
import Derived.Test.YthkncfdgfbnchaaDoorN
/-! courantref16: a file's cells are stored anew; Append. -/
section
set_option linter.unusedVariables false
set_option linter.unusedSimpArgs false
namespace Go.Proofs.YthkncfdgfbnchaaDoor
open Go.RowKit

theorem cellsR_set (r1 r2 : List RV) (r r' : RV) (i : Nat) (u : Value) (hi : i < 3) (h : r.cells.set i u = r'.cells) : (cellsR (r1 ++ r :: r2)).set (r1.length * 3 + i) u = cellsR (r1 ++ r' :: r2) := by
  have e : ∀ q : RV, cellsR (r1 ++ q :: r2) = cellsR r1 ++ (q.cells ++ cellsR r2) := fun q => by simp [cellsR]
  rw [e, e, List.set_append_right _ _ (by rw [cellsR_len]; omega), cellsR_len, show r1.length * 3 + i - 3 * r1.length = i by omega, List.set_append_left _ _ (by show i < 3; omega), h]
theorem rows_set {w : World} {v : Value} {G : Nat} {r1 r2 : List RV} {r r' : RV} {base : Nat} (h : w.ownsRow base 95 3 v (r1 ++ r :: r2).length (cellsR (r1 ++ r :: r2))) (hG : v.ownBlock = some G) (i : Nat) (u : Value) (hi : i < 3) (e : r.cells.set i u = r'.cells) :
    (w.setCell ⟨G, r1.length * 3 + i, none⟩ u).ownsRow base 95 3 v (r1 ++ r' :: r2).length (cellsR (r1 ++ r' :: r2)) ∧ Kept (fun k => k = G) w (w.setCell ⟨G, r1.length * 3 + i, none⟩ u) := by
  refine ⟨?_, kF w G _ u⟩
  rcases h.2 with ⟨hv, h0⟩ | ⟨g, cap, cur, hv, _⟩
  · rw [hv] at hG; cases hG
  · have hg : g = G := by rw [hv] at hG; simpa [Value.ownBlock] using hG
    subst hg
    rw [hv] at h ⊢
    have := (h.stored (r1.length * 3 + i) u).1
    rw [cellsR_set r1 r2 r r' i u hi e] at this
    rwa [show (r1 ++ r' :: r2).length = (r1 ++ r :: r2).length by simp]
/-- One file is stored anew. -/
theorem RefAt.upd {w W : World} {R : Nat} {v : Value} {G : Nat} {r1 r2 : List RV} {r r' : RV} {most fuse : Int} {dn : Bool} (h : RefAt w R v (r1 ++ r :: r2) most fuse dn) (hG : v.ownBlock = some G) (hk : Kept (fun k => k = G) w W)
    (hrow : W.ownsRow 0 95 3 v (r1 ++ r' :: r2).length (cellsR (r1 ++ r' :: r2))) (hat : r'.At W) (hsep : ∀ k, r'.val.ownBlock = some k → k ≠ R ∧ k ≠ G ∧ (r.val.ownBlock = some k ∨ w.heap.size ≤ k)) :
    RWent w W R v (r1 ++ r :: r2) v (r1 ++ r' :: r2) most fuse dn := by
  have hGR : G ≠ R := fun e => h.sepR (by rw [hG, e])
  have hmem : ∀ q ∈ r1 ++ r' :: r2, q = r' ∨ q ∈ r1 ++ r :: r2 := by
    intro q hq
    simp only [List.mem_append, List.mem_cons] at hq ⊢
    rcases hq with hq | hq | hq <;> simp [hq]
  refine ⟨⟨hk.heap h.rb (fun e => hGR e.symm), hrow, fun q hq => ?_, h.sepR, fun q hq k e => ?_, by have := h.few; simp at this ⊢; omega, h.most0, h.fuse0⟩, hk.mono fun k _ e => own_rfoot (by rw [hG, e]), fun k hk => ?_⟩
  · rcases hmem q hq with rfl | hq
    · exact hat
    · exact ⟨own_kept (h.at_ q hq).own hk fun k e e2 => (h.sep q hq k e).2 (by rw [hG, e2]), (h.at_ q hq).safe, (h.at_ q hq).len⟩
  · rcases hmem q hq with rfl | hq
    · exact ⟨(hsep k e).1, fun e2 => (hsep k e).2.1 (by rw [hG] at e2; injection e2 with e2; exact e2.symm)⟩
    · exact h.sep q hq k e
  · simp only [rfoot, List.mem_cons, List.mem_append, List.mem_flatMap, Option.mem_toList] at hk
    rcases hk with hk | hk | ⟨q, hq, hk⟩
    · exact .inl (by subst hk; simp [rfoot])
    · exact .inl (own_rfoot hk)
    · rcases hmem q (by simpa using hq) with rfl | hq
      · exact (hsep k hk).2.2.imp (fun h => mem_rfoot (r := r) (by simp) h) id
      · exact .inl (mem_rfoot hq hk)
/-- append(s, xs...) onto bytes of the call's own, xs nil or not: at an operation; at a step of a region that draws. -/
theorem wp_append_bs {w : World} {o : Oper} {a : Act} {K : Act → World → Prop} {Q : Exit → Act → World → Prop} (s x : Operand)
    (ho : o.op = .call { callee := .builtin .append, args := #[s, x], argTypes := #[29, 29] })
    (base : Nat) (v : Value) (n : Nat) (ys : List Value) (hs : a.eval s = v) (hown : w.ownsRow base 5 1 v n ys)
    (A : Option Addr) (m c : Nat) (xs : List UInt8) (hx : a.eval x = .slice A m c) (hB : Bs w A xs) (hm : m = xs.length) (hA : A = none → c = 0)
    (h63 : n + m ≤ 1000000000) (hbase : base ≤ w.heap.size)
    (h : ∀ v' w', w'.ownsRow base 5 1 v' (n + m) (ys ++ xs.map bv) → w.grownBy w' v.ownBlock → K (a.put o.dst v') w') : o.wp Tryd.prog a w K Q := by
  obtain ⟨i0, hi, hz0, hz1, hz2⟩ := info_parts infoU8
  cases A with
  | none =>
    have h1 := hB.1 rfl
    have h2 := hA rfl
    subst h1; subst h2
    simp only [List.length_nil] at hm
    subst hm
    have hrun := run_append_owned_none (P := Tryd.prog) (w := w) base 29 o.type 5 i0 1 Tryd.underlying29 hi v n ys hown
    unfold Oper.wp
    simp [execOp, ho, resolve, invoke, builtin, hs, hx, hrun, Result.andThen]
    exact h v w (by simpa using hown) ⟨rfl, rfl, rfl, Nat.le_refl _, fun _ _ _ => rfl⟩
  | some ad =>
    refine wp_append_own w s x 29 ho base 5 i0 (.int .u8 0) 1 1 Tryd.underlying29 hi hz0 hz1 hz2 rfl (by decide) v n ys hs hown ad m c (xs.map bv) hx (by rw [List.length_map, hm, Nat.mul_one]) (hB.2 ad rfl) (bv_one xs) (by unfold maxLen; omega) (by omega) hbase ?_
    intro v' w' h2 h3 _
    exact h v' w' h2 h3
theorem step_append_bs {w : World} {ops : Array Oper} {o : Oper} {a : Act} {K : Act → World → Prop} {Q : Exit → Act → World → Prop} {E : Prop} (hgd : o.guard = none) (s x : Operand)
    (ho : o.op = .call { callee := .builtin .append, args := #[s, x], argTypes := #[29, 29] })
    (base : Nat) (v : Value) (n : Nat) (ys : List Value) (hs : a.eval s = v) (hown : w.ownsRow base 5 1 v n ys)
    (A : Option Addr) (m c : Nat) (xs : List UInt8) (hx : a.eval x = .slice A m c) (hB : Bs w A xs) (hm : m = xs.length) (hA : A = none → c = 0)
    (h63 : n + m ≤ 1000000000) (hbase : base ≤ w.heap.size)
    (h : ∀ v' w', w'.ownsRow base 5 1 v' (n + m) (ys ++ xs.map bv) → w.grownBy w' v.ownBlock → K (a.put o.dst v') w') : if Region.wanted o (yielded ops a.tmps) = true then Oper.wp Tryd.prog o a w K Q else E := by
  have hw : Region.wanted o (yielded ops a.tmps) = true := by simp [Region.wanted, hgd]
  rw [if_pos hw]
  exact wp_append_bs s x ho base v n ys hs hown A m c xs hx hB hm hA h63 hbase h
theorem Bs.kept' {S : Nat → Prop} {w w' : World} {A : Option Addr} {xs : List UInt8} (h : Bs w A xs) (hk : Kept S w w') (hS : ∀ ad, A = some ad → xs = [] ∨ ¬ S ad.block) : Bs w' A xs := by
  by_cases he : xs = []
  · subst he; exact Bs.nil _ _
  · exact h.kept hk fun ad e => (hS ad e).resolve_left he
def RGone (er : Int) (w : World) (R : Nat) (v : Value) (rs rs' : List RV) (most fuse : Int) (dn : Bool) (e : Ending) (w' : World) : Prop := e = .returned (.int .i64 er) ∧ ∃ v', RWent w w' R v rs v' rs' most fuse dn
theorem RWent.trans {w w1 w2 : World} {R : Nat} {v v1 v2 : Value} {rs rs1 rs2 : List RV} {m1 f1 m2 f2 : Int} {d1 d2 : Bool} (h : RWent w w1 R v rs v1 rs1 m1 f1 d1) (k : RWent w1 w2 R v1 rs1 v2 rs2 m2 f2 d2) : RWent w w2 R v rs v2 rs2 m2 f2 d2 :=
  ⟨k.at_, h.kept.trans k.kept fun i hi hm => (h.feet i hm).resolve_right (by omega), fun i hi => (k.feet i hi).elim (h.feet i) fun hi => .inr (Nat.le_trans h.kept.size hi)⟩
theorem RefAt.fields {w w' : World} {R : Nat} {v : Value} {rs : List RV} {most fuse most' fuse' : Int} {dn dn' : Bool} (h : RefAt w R v rs most fuse dn) (hb : RB w' R v most' fuse' dn') (hk : Kept (fun k => k = R) w w') (h1 : 0 ≤ most' ∧ most' ≤ 4194304) (h2 : 0 ≤ fuse' ∧ fuse' ≤ 9223372036854775807) : RWent w w' R v rs v rs most' fuse' dn' :=
  ⟨⟨hb, own_kept h.row hk fun k e e2 => h.sepR (by rw [← e2]; exact e), fun r hr => ⟨own_kept (h.at_ r hr).own hk fun k e e2 => (h.sep r hr k e).1 e2, (h.at_ r hr).safe, (h.at_ r hr).len⟩, h.sepR, h.sep, h.few, h1, h2⟩, hk.mono fun k _ e => by subst e; simp [rfoot], fun k hk => .inl hk⟩
theorem RWent.refl {w : World} {R : Nat} {v : Value} {rs : List RV} {most fuse : Int} {dn : Bool} (h : RefAt w R v rs most fuse dn) : RWent w w R v rs v rs most fuse dn := ⟨h, Kept.refl _ _, fun k hk => .inl hk⟩
end Go.Proofs.YthkncfdgfbnchaaDoor
end

/-! courantref03: Simple, Full: what names.Full answers. -/
section
set_option linter.unusedVariables false
set_option linter.unusedSimpArgs false
namespace Go.Proofs.YthkncfdgfbnchaaDoor
open Go.RowKit Go.Shelf

set_option maxHeartbeats 1000000 in
theorem rsimple_any (s : ByteArray) (w : World) (hs : s.size ≤ 140737488355328) :
    Calls Tryd.prog 108 #[.string s] w fun e w' => e = .returned (.bool (simpleB s.data.toList)) ∧ w' = w := by
  go_enter Tryd.func108, Tryd.ntmps108
  go_wp2
  go_loop [3, 4] (fun i _ => ∃ k : Nat, k ≤ s.size ∧ i = .int .i64 k ∧ Hid (okFrom 0 s.data.toList = okFrom k (s.data.toList.drop k))) (fun i _ => s.size - (intOf i).toNat)
  case atStart => exact ⟨0, Nat.zero_le _, rfl, Lib.hid rfl⟩
  case round =>
    obtain ⟨k, hk, rfl, hO⟩ := hrel
    by_cases hlt : k < s.size
    · have hk9 : (k : Int) < (s.size : Int) := by omega
      have hl : k < s.data.toList.length := by simpa using hlt
      have hd := okFrom_drop s.data.toList k k hl
      have hg : s.data.toList[k]'hl = s[k] := rfl
      rw [hg] at hd
      cases hc : okC k s[k] with
      | true =>
        have hz := of_decide_eq_true hc
        have hO' : Hid (okFrom 0 s.data.toList = okFrom (k + 1) (s.data.toList.drop (k + 1))) := by rw [hO.out, hd, hc]; rfl
        clear hd hc hO hg
        generalize hzz : s[k].toNat = z at hz
        have hz9 : (97 ≤ (z : Int) ∧ (z : Int) ≤ 122) ∨ (65 ≤ (z : Int) ∧ (z : Int) ≤ 90) ∨ (z : Int) = 95 ∨ (0 < (k : Int) ∧ 48 ≤ (z : Int) ∧ (z : Int) ≤ 57) := by omega
        have hzr : (z : Int) < 48 ∨ (48 ≤ (z : Int) ∧ (z : Int) ≤ 57) ∨ (58 ≤ (z : Int) ∧ (z : Int) ≤ 64) ∨ (65 ≤ (z : Int) ∧ (z : Int) ≤ 90) ∨ (91 ≤ (z : Int) ∧ (z : Int) ≤ 94) ∨ (z : Int) = 95 ∨ (z : Int) = 96 ∨ (97 ≤ (z : Int) ∧ (z : Int) ≤ 122) ∨ 123 ≤ (z : Int) := by omega
        have hkr : (k : Int) = 0 ∨ 0 < (k : Int) := by omega
        rcases hzr with hzr | hzr | hzr | hzr | hzr | hzr | hzr | hzr | hzr <;> rcases hkr with hkr | hkr
        all_goals first | (exfalso; omega) | skip
        all_goals
          first | have p1 : (97 : Int) ≤ (z : Int) := by omega | have p1 : ¬ (97 : Int) ≤ (z : Int) := by omega
          first | have p2 : (z : Int) ≤ 122 := by omega | have p2 : ¬ (z : Int) ≤ 122 := by omega
          first | have p3 : (65 : Int) ≤ (z : Int) := by omega | have p3 : ¬ (65 : Int) ≤ (z : Int) := by omega
          first | have p4 : (z : Int) ≤ 90 := by omega | have p4 : ¬ (z : Int) ≤ 90 := by omega
          first | have p5 : ((z : Int) == 95) = true := by rw [beq_iff_eq]; omega | have p5 : ((z : Int) == 95) = false := by rw [beq_eq_false_iff_ne]; omega
          first | have p6 : (0 : Int) < (k : Int) := by omega | have p6 : ¬ (0 : Int) < (k : Int) := by omega
          first | have p7 : (48 : Int) ≤ (z : Int) := by omega | have p7 : ¬ (48 : Int) ≤ (z : Int) := by omega
          first | have p8 : (z : Int) ≤ 57 := by omega | have p8 : ¬ (z : Int) ≤ 57 := by omega
          clear hzr hkr hz hz9
          go_wp2
          go_round
          case rel => exact ⟨k + 1, by omega, by go_num, hO'⟩
          case measure => simp [intOf]; omega
      | false =>
        have hz := of_decide_eq_false hc
        have hS : Hid (simpleB s.data.toList = false) := by
          unfold simpleB; rw [hO.out, hd, hc]; rfl
        clear hd hc hO hg
        generalize hzz : s[k].toNat = z at hz
        have hz9 : ¬ ((97 ≤ (z : Int) ∧ (z : Int) ≤ 122) ∨ (65 ≤ (z : Int) ∧ (z : Int) ≤ 90) ∨ (z : Int) = 95 ∨ (0 < (k : Int) ∧ 48 ≤ (z : Int) ∧ (z : Int) ≤ 57)) := by omega
        have hzr : (z : Int) < 48 ∨ (48 ≤ (z : Int) ∧ (z : Int) ≤ 57) ∨ (58 ≤ (z : Int) ∧ (z : Int) ≤ 64) ∨ (65 ≤ (z : Int) ∧ (z : Int) ≤ 90) ∨ (91 ≤ (z : Int) ∧ (z : Int) ≤ 94) ∨ (z : Int) = 95 ∨ (z : Int) = 96 ∨ (97 ≤ (z : Int) ∧ (z : Int) ≤ 122) ∨ 123 ≤ (z : Int) := by omega
        have hkr : (k : Int) = 0 ∨ 0 < (k : Int) := by omega
        rcases hzr with hzr | hzr | hzr | hzr | hzr | hzr | hzr | hzr | hzr <;> rcases hkr with hkr | hkr
        all_goals first | (exfalso; omega) | skip
        all_goals
          first | have p1 : (97 : Int) ≤ (z : Int) := by omega | have p1 : ¬ (97 : Int) ≤ (z : Int) := by omega
          first | have p2 : (z : Int) ≤ 122 := by omega | have p2 : ¬ (z : Int) ≤ 122 := by omega
          first | have p3 : (65 : Int) ≤ (z : Int) := by omega | have p3 : ¬ (65 : Int) ≤ (z : Int) := by omega
          first | have p4 : (z : Int) ≤ 90 := by omega | have p4 : ¬ (z : Int) ≤ 90 := by omega
          first | have p5 : ((z : Int) == 95) = true := by rw [beq_iff_eq]; omega | have p5 : ((z : Int) == 95) = false := by rw [beq_eq_false_iff_ne]; omega
          first | have p6 : (0 : Int) < (k : Int) := by omega | have p6 : ¬ (0 : Int) < (k : Int) := by omega
          first | have p7 : (48 : Int) ≤ (z : Int) := by omega | have p7 : ¬ (48 : Int) ≤ (z : Int) := by omega
          first | have p8 : (z : Int) ≤ 57 := by omega | have p8 : ¬ (z : Int) ≤ 57 := by omega
          clear hzr hkr hz hz9
          go_wp2
          go_ret
          exact ⟨ret_bool hS.out.symm, rfl⟩
    · obtain rfl : k = s.size := by omega
      have hS := Lib.hid (show simpleB s.data.toList = (decide (0 < s.size) && decide (s.size ≤ 100)) by
        unfold simpleB; rw [hO.out, List.drop_of_length_le (by simp)]; simp [okFrom])
      clear hO
      by_cases h1 : 0 < s.size
      · have h9 : (1 : Int) ≤ (s.size : Int) := by omega
        by_cases h2 : s.size ≤ 100
        · have h8 : (s.size : Int) ≤ 100 := by omega
          go_wp2
          go_ret
          exact ⟨ret_bool (by rw [hS.out]; simp [h1, h2]), rfl⟩
        · have h8 : ¬ (s.size : Int) ≤ 100 := by omega
          go_wp2
          go_ret
          exact ⟨ret_bool (by rw [hS.out]; simp [h2]), rfl⟩
      · have h9 : ¬ (1 : Int) ≤ (s.size : Int) := by omega
        go_wp2
        go_ret
        exact ⟨ret_bool (by rw [hS.out]; simp [h1]), rfl⟩

theorem cutP_nodot (l : List UInt8) (h : ∀ c ∈ l, c ≠ 46) : cutP l = [l] := by
  induction l with
  | nil => rfl
  | cons c l ih =>
    rw [cutP, if_neg (by simp [h c (by simp)]), ih fun d hd => h d (by simp [hd])]
theorem cutP_dot (l m : List UInt8) (h : ∀ c ∈ l, c ≠ 46) : cutP (l ++ 46 :: m) = l :: cutP m := by
  induction l with
  | nil => rw [List.nil_append, cutP, if_pos (by rfl)]
  | cons c l ih =>
    rw [List.cons_append, cutP, if_neg (by simp [h c (by simp)]), ih fun d hd => h d (by simp [hd])]
/-- What has been met of a name: its pieces ahead of a were right, from a to k there is no point. -/
def Met (s : ByteArray) (a k : Nat) : Prop :=
  if k ≤ s.size then (cutP s.data.toList).all simpleB = (cutP (s.data.toList.drop a)).all simpleB ∧ ∀ c ∈ (s.data.toList.drop a).take (k - a), c ≠ 46 else (cutP s.data.toList).all simpleB = true
theorem fullB_eq (s : ByteArray) : fullB s = (decide (s.size ≤ 100) && (cutP s.data.toList).all simpleB) := by
  unfold fullB pieces
  congr 1
  rw [List.all_map]
  congr 1
theorem drop_split (l : List UInt8) (a k : Nat) (ha : a ≤ k) : l.drop a = (l.drop a).take (k - a) ++ l.drop k := by
  have := List.take_append_drop (k - a) (l.drop a)
  rw [List.drop_drop, show a + (k - a) = k by omega] at this
  exact this.symm
theorem Met.piece {s : ByteArray} {a k : Nat} (h : Met s a k) (ha : a ≤ k) (hk : k ≤ s.size) (hd : k = s.size ∨ s.data.toList[k]? = some 46) :
    ((simpleB ((s.data.toList.drop a).take (k - a)) = false) → (cutP s.data.toList).all simpleB = false) ∧ ((simpleB ((s.data.toList.drop a).take (k - a)) = true) → Met s (k + 1) (k + 1)) := by
  unfold Met at h
  rw [if_pos hk] at h
  obtain ⟨h1, h2⟩ := h
  have hlen : s.data.toList.length = s.size := by simp
  by_cases he : k = s.size
  · have hcut : cutP (s.data.toList.drop a) = [(s.data.toList.drop a).take (k - a)] := by
      have e := drop_split s.data.toList a k ha
      rw [List.drop_of_length_le (by omega : s.data.toList.length ≤ k), List.append_nil] at e
      rw [← e]
      rw [← e] at h2
      exact cutP_nodot _ h2
    rw [hcut] at h1
    simp only [List.all_cons, List.all_nil, Bool.and_true] at h1
    refine ⟨fun hs => by rw [h1, hs], fun hs => ?_⟩
    unfold Met
    rw [if_neg (by omega), h1, hs]
  · have hlt : k < s.data.toList.length := by omega
    have hdot : s.data.toList[k] = 46 := by
      have := hd.resolve_left he
      rw [List.getElem?_eq_getElem hlt] at this
      injection this
    have e := drop_split s.data.toList a k ha
    rw [List.drop_eq_getElem_cons hlt, hdot] at e
    rw [e, cutP_dot _ _ h2] at h1
    simp only [List.all_cons] at h1
    refine ⟨fun hs => by rw [h1, hs]; rfl, fun hs => ?_⟩
    unfold Met
    rw [if_pos (by omega)]
    refine ⟨by rw [h1, hs]; rfl, by simp⟩
theorem Met.next {s : ByteArray} {a k : Nat} (h : Met s a k) (ha : a ≤ k) (hk : k < s.size) (hd : s.data.toList[k]? ≠ some 46) : Met s a (k + 1) := by
  unfold Met at h ⊢
  rw [if_pos (by omega)] at h ⊢
  refine ⟨h.1, fun c hc => ?_⟩
  have hl : k < s.data.toList.length := by simpa using hk
  have hl2 : k - a < (s.data.toList.drop a).length := by rw [List.length_drop]; omega
  rw [show k + 1 - a = (k - a) + 1 by omega, List.take_add_one, List.getElem?_eq_getElem hl2] at hc
  rcases List.mem_append.1 hc with hc | hc
  · exact h.2 c hc
  · simp only [Option.toList_some, List.mem_singleton, List.getElem_drop] at hc
    intro e
    apply hd
    rw [List.getElem?_eq_getElem hl, ← e, hc]
    congr 2
    omega
set_option maxRecDepth 100000 in
set_option maxHeartbeats 4000000 in
theorem rfull_any (s : ByteArray) (w : World) (hs : s.size ≤ 140737488355328) :
    Calls Tryd.prog 85 #[.string s] w fun e w' => e = .returned (.bool (fullB s)) ∧ w' = w := by
  go_enter Tryd.func85, Tryd.ntmps85
  go_wp2
  go_loop [3, 4] (fun f i => ∃ a k : Nat, a ≤ k ∧ k ≤ s.size + 1 ∧ f = .int .i64 a ∧ i = .int .i64 k ∧ Hid (Met s a k)) (fun _ i => s.size + 1 - (intOf i).toNat)
  case atStart => exact ⟨0, 0, Nat.le_refl _, Nat.zero_le _, rfl, rfl, Lib.hid (by unfold Met; rw [if_pos (Nat.zero_le _)]; simp)⟩
  case round =>
    obtain ⟨a, k, hak, hk, rfl, rfl, hM⟩ := hrel
    have hak9 : (a : Int) ≤ (k : Int) := by omega
    have ha0 : (0 : Int) ≤ (a : Int) := by omega
    by_cases hle : k ≤ s.size
    · have hk8 : (k : Int) ≤ (s.size : Int) := by omega
      have HS := Lib.hid (rsimple_any (s.extract a k) w (by simp; omega))
      have hex : (s.extract a k).data.toList = (s.data.toList.drop a).take (k - a) := by
        rw [Lib.extract_eq]
      rw [hex] at HS
      clear hex
      by_cases hdot : k = s.size ∨ s.data.toList[k]? = some 46
      · have hP := hM.out.piece hak hle hdot
        obtain ⟨b, hb⟩ : ∃ b, b = simpleB ((s.data.toList.drop a).take (k - a)) := ⟨_, rfl⟩
        rw [← hb] at HS hP
        have HP := Lib.hid hP
        clear hb hP
        by_cases he : k = s.size
        · have hb1 : ((k : Int) == (s.size : Int)) = true := by rw [beq_iff_eq]; omega
          clear hdot he
          cases b
          · have HF := Lib.hid (show fullB s = false by rw [fullB_eq, HP.out.1 rfl, Bool.and_false])
            go_wp2_with (go_at_call 108; refine HS.out.mono ?_; rintro e w' ⟨rfl, rfl⟩)
            go_ret
            exact ⟨ret_bool HF.out.symm, rfl⟩
          · have HM := Lib.hid (HP.out.2 rfl)
            go_wp2_with (go_at_call 108; refine HS.out.mono ?_; rintro e w' ⟨rfl, rfl⟩)
            go_round
            case rel => exact ⟨k + 1, k + 1, Nat.le_refl _, by omega, by go_num, by go_num, HM⟩
            case measure => simp [intOf]; omega
        · have hb1 : ((k : Int) == (s.size : Int)) = false := by rw [beq_eq_false_iff_ne]; omega
          have hk9 : (k : Int) < (s.size : Int) := by omega
          have hl : k < s.data.toList.length := by
            have : s.data.toList.length = s.size := by simp
            omega
          have hc := hdot.resolve_left he
          rw [List.getElem?_eq_getElem hl] at hc
          have hg : s.data.toList[k]'hl = s[k]'(by omega) := rfl
          rw [hg] at hc
          injection hc with hc
          have hz : (s[k]'(by omega)).toNat = 46 := by rw [hc]; rfl
          have hz9 : (((s[k]'(by omega)).toNat : Int) == 46) = true := by rw [hz]; rfl
          clear hc hg hl hdot he hz
          cases b
          · have HF := Lib.hid (show fullB s = false by rw [fullB_eq, HP.out.1 rfl, Bool.and_false])
            go_wp2_with (go_at_call 108; refine HS.out.mono ?_; rintro e w' ⟨rfl, rfl⟩)
            go_ret
            exact ⟨ret_bool HF.out.symm, rfl⟩
          · have HM := Lib.hid (HP.out.2 rfl)
            go_wp2_with (go_at_call 108; refine HS.out.mono ?_; rintro e w' ⟨rfl, rfl⟩)
            go_round
            case rel => exact ⟨k + 1, k + 1, Nat.le_refl _, by omega, by go_num, by go_num, HM⟩
            case measure => simp [intOf]; omega
      · have he : k ≠ s.size := fun e => hdot (.inl e)
        have hb1 : ((k : Int) == (s.size : Int)) = false := by rw [beq_eq_false_iff_ne]; omega
        have hk9 : (k : Int) < (s.size : Int) := by omega
        have hl : k < s.data.toList.length := by
          have : s.data.toList.length = s.size := by simp
          omega
        have HM := Lib.hid (hM.out.next hak (by omega) fun e => hdot (.inr e))
        have hg : s.data.toList[k]'hl = s[k]'(by omega) := rfl
        have hz9 : (((s[k]'(by omega)).toNat : Int) == 46) = false := by
          rw [beq_eq_false_iff_ne]
          intro e
          apply hdot
          right
          rw [List.getElem?_eq_getElem hl, hg]
          congr 1
          exact UInt8.toNat_inj.1 (by rw [show (46 : UInt8).toNat = 46 from rfl]; omega)
        clear hg hl hdot he
        go_wp2
        go_round
        case rel => exact ⟨a, k + 1, by omega, by omega, by go_num, by go_num, HM⟩
        case measure => simp [intOf]; omega
    · have hk8 : ¬ (k : Int) ≤ (s.size : Int) := by omega
      have hM2 := hM.out
      unfold Met at hM2
      rw [if_neg hle] at hM2
      have HF := Lib.hid (show fullB s = decide (s.size ≤ 100) by rw [fullB_eq, hM2, Bool.and_true])
      clear hM2
      go_wp2
      go_ret
      exact ⟨ret_bool (by rw [HF.out]; exact decide_eq_decide.2 (by omega)), rfl⟩
end Go.Proofs.YthkncfdgfbnchaaDoor
end

/-! courantref16: Append. -/
section
set_option linter.unusedVariables false
set_option linter.unusedSimpArgs false
namespace Go.Proofs.YthkncfdgfbnchaaDoor
open Go.RowKit

/-- Refused: nothing changes. -/
def RNo (er : Int) (w : World) (e : Ending) (w' : World) : Prop := e = .returned (.int .i64 er) ∧ Kept (fun _ => False) w w'
set_option maxHeartbeats 1000000 in
theorem rappend_down (s : ByteArray) (A : Option Addr) (n c : Nat) (w : World) (R : Nat) (v : Value) (most fuse : Int) (h : RB w R v most fuse true) :
    Calls Tryd.prog 62 #[.pointer (some ⟨R, 0, none⟩), .string s, .slice A n c] w (RNo 13 w) := by
  have h3 := h.c3
  clear h
  go_enter Tryd.func62, Tryd.ntmps62
  go_wp2
  go_ret
  exact ⟨rfl, Kept.refl _ _⟩
set_option maxHeartbeats 1000000 in
theorem rappend_bad (s : ByteArray) (A : Option Addr) (n c : Nat) (w : World) (R : Nat) (v : Value) (most fuse : Int) (hs : s.size ≤ 140737488355328) (hf : fullB s = false) (h : RB w R v most fuse false) :
    Calls Tryd.prog 62 #[.pointer (some ⟨R, 0, none⟩), .string s, .slice A n c] w (RNo 6 w) := by
  have h3 := h.c3
  have HF := Lib.hid (rfull_any s w hs)
  rw [hf] at HF
  clear h hs hf
  go_enter Tryd.func62, Tryd.ntmps62
  go_wp2_with (go_at_call 85; refine HF.out.mono ?_; rintro e w' ⟨rfl, rfl⟩)
  go_ret
  exact ⟨rfl, Kept.refl _ _⟩
set_option maxHeartbeats 1000000 in
theorem rappend_full (s : ByteArray) (A : Option Addr) (n c : Nat) (w : World) (R : Nat) (v : Value) (rs : List RV) (most fuse : Int) (hs : s.size ≤ 140737488355328) (hf : fullB s = true) (h : RefAt w R v rs most fuse false) (hu : usedR rs ≤ 1000000000) (hn : 0 < n) (hl : n ≤ 1000000000) (hno : most < (n : Int) + (usedR rs : Int)) :
    Calls Tryd.prog 62 #[.pointer (some ⟨R, 0, none⟩), .string s, .slice A n c] w (RNo 14 w) := by
  have h3 := h.rb.c3
  have h1 := h.rb.c1
  obtain ⟨u, hu'⟩ : ∃ u, u = usedR rs := ⟨_, rfl⟩
  have HU : Hid (∀ m, Calls Tryd.prog 26 #[.pointer (some ⟨R, 0, none⟩)] (w.drewN m) fun e w' => e = .returned (.int .i64 (u : Nat)) ∧ w' = w.drewN m) := Lib.hid fun m => by rw [hu']; exact rused_any _ R v rs most fuse false (h.kept ((Kept.refl (fun _ => False) w).drewN m) (by simp)) hu
  have HF := Lib.hid (rfull_any s w hs)
  rw [hf] at HF
  have hn9 : (0 : Int) < (n : Int) := by omega
  have hm := h.most0
  have hu9 : (u : Int) ≤ 1000000000 := by omega
  have hm1 : 0 ≤ most := hm.1
  have hm2 : most ≤ 4194304 := hm.2
  have hcmp : most - (u : Int) < (n : Int) := by omega
  clear h hs hf hu hu' hno hm
  go_enter Tryd.func62, Tryd.ntmps62
  go_wp2_with (go_at_call 85; refine HF.out.mono ?_; rintro e w' ⟨rfl, rfl⟩)
  go_quiet (exact Calls.quiet_of_same (HU.out _))
  go_wp2
  go_ret
  exact ⟨rfl, (Kept.refl _ _).drewN _⟩
end Go.Proofs.YthkncfdgfbnchaaDoor
end

/-! courantref16: Append to a file that is there. -/
section
set_option linter.unusedVariables false
set_option linter.unusedSimpArgs false
namespace Go.Proofs.YthkncfdgfbnchaaDoor
open Go.RowKit

theorem rhitE (fuse : Int) : (if decide (fuse = 1) = true then (13 : Int) else 0) = hitE fuse := by unfold hitE; by_cases h : fuse = 1 <;> simp [h]
theorem decA0 {fuse : Int} (h : 0 ≤ fuse ∧ fuse ≤ 9223372036854775807) : 0 ≤ decA fuse ∧ decA fuse ≤ 9223372036854775807 := decA_r h
/-- The bytes of a file of the reference, as a slice. -/
theorem RV.At.bs {w : World} {r : RV} (h : r.At w) : ∃ A c, r.val = .slice A r.b.length c ∧ Bs w A r.b ∧ (A = none → c = 0) := by
  obtain ⟨A, c, hv, -, hb, hA, -⟩ := Bs.of_own h.own
  exact ⟨A, c, hv, hb, hA⟩
/-- Behind the store of new bytes. -/
theorem bytes_end {w W3 : World} {R G : Nat} {v u : Value} {r1 r2 : List RV} {r : RV} {most fuse : Int} {dn : Bool} {ys : List UInt8} {base : Nat} (h : RefAt w R v (r1 ++ r :: r2) most fuse dn) (hG : v.ownBlock = some G) (hk : Kept (fun _ => False) w W3)
    (hown : W3.ownsRow base 5 1 u ys.length (ys.map bv)) (hb : w.heap.size ≤ base) (hs : r.safe ≤ ys.length) (hl : ys.length ≤ 4194304) :
    RWent w (W3.setCell ⟨G, r1.length * 3 + 1, none⟩ u) R v (r1 ++ r :: r2) v (r1 ++ { r with b := ys, val := u } :: r2) most fuse dn := by
  have hG2 : G < w.heap.size := h.lt G (own_rfoot hG)
  have hR2 : R < w.heap.size := h.lt R (by simp [rfoot])
  have hge := own_ge hown
  obtain ⟨hrow, hkG⟩ := rows_set (r' := { r with b := ys, val := u }) (own_kept h.row hk (by simp)) hG 1 u (by omega) rfl
  refine h.upd hG ((hk.mono fun _ _ h => h.elim).trans' hkG) hrow ⟨own_base (own_kept hown hkG fun k e e2 => by have := hge k e; omega), hs, hl⟩ fun k e => ?_
  have := hge k e
  exact ⟨by omega, by omega, .inr (by omega)⟩
set_option maxRecDepth 100000 in
set_option maxHeartbeats 4000000 in
theorem rappend_old (A : Option Addr) (n c : Nat) (w : World) (R : Nat) (v : Value) (r1 r2 : List RV) (r : RV) (most fuse : Int) (xs : List UInt8) (hs : r.name.size ≤ 140737488355328) (hf : fullB r.name = true) (hso : SortedR (r1 ++ r :: r2)) (h : RefAt w R v (r1 ++ r :: r2) most fuse false)
    (hu : usedR (r1 ++ r :: r2) ≤ 4194304) (hx : Bs w A xs) (hn : n = xs.length) (hA : A = none → c = 0) (hxR : ∀ ad, A = some ad → xs = [] ∨ ad.block ≠ R) (hfit : n = 0 ∨ (n : Int) + (usedR (r1 ++ r :: r2) : Int) ≤ most) :
    Calls Tryd.prog 62 #[.pointer (some ⟨R, 0, none⟩), .string r.name, .slice A n c] w fun e w' => ∃ u, RGone (hitE fuse) w R v (r1 ++ r :: r2) (r1 ++ { r with b := r.b ++ xs, val := u } :: r2) most (decA fuse) (decide (fuse = 1)) e w' := by
  have h3 := h.rb.c3
  have h1 := h.rb.c1
  have H := Lib.hid h
  have HSo := Lib.hid hso
  obtain ⟨u, hu'⟩ : ∃ u, u = usedR (r1 ++ r :: r2) := ⟨_, rfl⟩
  have HU : Hid (∀ m, Calls Tryd.prog 26 #[.pointer (some ⟨R, 0, none⟩)] (w.drewN m) fun e w' => e = .returned (.int .i64 (u : Nat)) ∧ w' = w.drewN m) := Lib.hid fun m => by rw [hu']; exact rused_any _ R v _ most fuse false (h.kept ((Kept.refl (fun _ => False) w).drewN m) (by simp)) (by omega)
  have HF := Lib.hid (rfull_any r.name w hs)
  rw [hf] at HF
  have hm1 : 0 ≤ most := h.most0.1
  have hm2 : most ≤ 4194304 := h.most0.2
  have hb9 : r.b.length ≤ u := by
    rw [hu']; unfold usedR; simp; omega
  have hu9 : (u : Int) ≤ 4194304 := by omega
  have hnl : n ≤ 4194304 := by rcases hfit with h | h <;> omega
  have hbn : r.b.length + n ≤ 4194304 := by rcases hfit with h | h <;> omega
  have Hfuse := Lib.hid h.fuse0
  have HX := Lib.hid hx
  have HXR := Lib.hid hxR
  have Hn := Lib.hid hn
  have HA := Lib.hid hA
  have hfit' : n = 0 ∨ (n : Int) + (u : Int) ≤ most := by rw [hu']; exact hfit
  have Hbn := Lib.hid hbn
  obtain ⟨b, hb⟩ : ∃ b, b = decide (fuse = 1) := ⟨_, rfl⟩
  have HE0 := Lib.hid (show hitE fuse = if b = true then 13 else 0 by rw [hb, rhitE])
  have HH : Hid (∀ W, Kept (fun _ => False) w W → Calls Tryd.prog 84 #[.pointer (some ⟨R, 0, none⟩)] W fun e w' => e = .returned (.bool b) ∧ RWent w w' R v (r1 ++ r :: r2) v (r1 ++ r :: r2) most (decA fuse) b ∧ Kept (fun k => k = R) w w') := Lib.hid fun W hW => by
    have hW' := h.kept hW (by simp)
    refine (rhit_any W R v most fuse hW'.rb h.fuse0).mono ?_
    rintro e w' ⟨he, hrb, hk⟩
    rw [← hb] at he hrb
    have hkk : Kept (fun k => k = R) w w' := (hW.mono fun _ _ h => h.elim).trans' hk
    exact ⟨he, h.fields hrb hkk h.most0 (decA0 h.fuse0), hkk⟩
  rw [← hb]
  clear h hs hf hso hu hx hn hA hxR hfit hu' hb hb9
  cases b
  all_goals (rcases Nat.eq_zero_or_pos n with hz | hz)
  all_goals first
    | subst hz
    | (have hn' : (0 : Int) < (n : Int) := by omega
       have hcmp : ¬ most - (u : Int) < (n : Int) := by omega)
  all_goals clear hfit' hbn
  all_goals go_enter Tryd.func62, Tryd.ntmps62
  all_goals go_wp2_with (go_at_call 85; refine HF.out.mono ?_; rintro e w ⟨rfl, rfl⟩)
  all_goals first | go_quiet (exact Calls.quiet_of_same (HU.out _)) | go_quiet (fail)
  all_goals go_upto_region 11 with (first
    | (go_at_call 84; refine (HH.out _ ((Kept.refl _ w).drewN _)).mono ?_; rintro e w1 ⟨rfl, hw, hk⟩; have HW := Lib.hid hw; have HK := Lib.hid hk; clear hw hk)
    | (go_at_call 67; refine (rfind_some _ R v r1 r2 r most _ _ HSo.out HW.out.at_).mono ?_; rintro e w1 ⟨rfl, rfl⟩))
  all_goals
    obtain ⟨Av, cv, hv, hf⟩ := HW.out.at_.form
    obtain ⟨G, rfl, hG, -, hc1, -, hfz⟩ := hf.at_ (show (r1 ++ r :: r2)[r1.length]? = some r by simp)
    obtain ⟨A0, c0, hrv, hbs, hA0⟩ := (HW.out.at_.at_ r (by simp)).bs
    rw [hrv] at hc1
    have hf1 := hfz 1 (by omega)
    have h0 := HW.out.at_.rb.c0
    rw [hv] at h0
    have hGR : ¬ G = R := fun e => HW.out.at_.sepR (by rw [hG, e])
    have hRG : ¬ R = G := fun e => hGR e.symm
    obtain ⟨nn, hnn⟩ : ∃ nn, nn = (r1 ++ r :: r2).length := ⟨_, rfl⟩
    obtain ⟨k, hk⟩ : ∃ k, k = r1.length := ⟨_, rfl⟩
    rw [← hnn] at h0
    rw [← hk] at hc1 hf1 ⊢
    have hkn : (k : Int) < (nn : Int) := by rw [hk, hnn]; simp; omega
    have Hk := Lib.hid hk
    have HG := Lib.hid hG
    have Hhbs := Lib.hid hbs
    have HA0 := Lib.hid hA0
    have HSafe := Lib.hid (HW.out.at_.at_ r (by simp)).safe
    have HS0 : Hid (∀ W, Kept (fun _ => False) w1 W → W.cell? ⟨R, 0, none⟩ = some (.slice (some ⟨G, 0, none⟩) nn cv) ∧ W.cell? ⟨G, k * 3 + 1, none⟩ = some (.slice A0 r.b.length c0) ∧ W.frozen? ⟨G, k * 3 + 1, none⟩ = false) := Lib.hid fun W hW => by
      refine ⟨hW.cell h0 (by simp), hW.cell hc1 (by simp), ?_⟩
      have hlt : G < w1.heap.size := World.block_lt_of_cell? w1 ⟨G, k * 3 + 1, none⟩ hc1
      rw [← hf1]
      exact World.frozen?_of_block (hW.block G hlt (by simp))
    clear hv hf hG hfz hrv hbs hA0 hnn hk h1 h3
  all_goals go_region_law (first
    | (refine step_append_bs rfl _ _ rfl _ v4 _ _ rfl HV4.out A _ c xs rfl ((HX.out.kept' (HK.out) (fun ad e => (HXR.out ad e).imp id fun h e2 => h e2)).kept HK4.out (by simp)) Hn.out HA.out (by have := Hbn.out; omega) HK4.out.size ?_; intro v5 w5 hown hgrow; obtain ⟨A5, c5, rfl⟩ := own_slice hown; have HV5 := Lib.hid hown; have HK5 := Lib.hid (HK4.out.grown hgrow (fun k e hk => by have h9 : w1.heap.size ≤ k := own_ge HV4.out k e; omega)); obtain ⟨hs5, hc5, hf5⟩ := HS0.out _ HK5.out; clear hown hgrow)
    | (go_simp; go_at_call 20; refine (copy_any _ A0 r.b.length c0 r.b rfl (by have := Hbn.out; omega) (Hhbs.out.kept ((Kept.refl (fun _ => False) w1).drew) (by simp)) HA0.out).mono ?_; rintro e w4 ⟨v4, rfl, hown, hk4⟩; have HV4 := Lib.hid hown; have HK4 := Lib.hid (((Kept.refl (fun _ => False) w1).drew).trans' hk4); obtain ⟨hs4, hc4, hf4⟩ := HS0.out _ HK4.out; clear hown hk4))
  all_goals go_wp2
  all_goals
    go_ret
    have hE := bytes_end (ys := r.b ++ xs) HW.out.at_ HG.out HK5.out (by have := HV5.out; rw [← List.map_append] at this; rwa [show (r.b ++ xs).length = r.b.length + _ by rw [List.length_append, ← Hn.out]]) (Nat.le_refl _) (by have := HSafe.out; rw [List.length_append]; omega) (by rw [List.length_append, ← Hn.out]; exact Hbn.out)
    rw [← Hk.out] at hE
    exact ⟨_, ret_int (by rw [HE0.out]; rfl), _, HW.out.trans hE⟩
end Go.Proofs.YthkncfdgfbnchaaDoor
end

/-! courantref16: Append to a new file. -/
section
set_option linter.unusedVariables false
set_option linter.unusedSimpArgs false
namespace Go.Proofs.YthkncfdgfbnchaaDoor
open Go.RowKit

theorem lt_of_not {a b : List UInt8} (h : ¬ a < b) (hne : a ≠ b) : b < a := by
  have h1 : b ≤ a := h
  rcases List.le_iff_lt_or_eq.1 h1 with h | h
  · exact h
  · exact absurd h.symm hne
theorem tw_take {α : Type} (p : α → Bool) (l : List α) : l.take (l.takeWhile p).length = l.takeWhile p ∧ l.drop (l.takeWhile p).length = l.dropWhile p := by
  have h := List.takeWhile_append_dropWhile (p := p) (l := l)
  constructor
  · conv => lhs; arg 2; rw [← h]
    rw [List.take_left' rfl]
  · conv => lhs; arg 2; rw [← h]
    rw [List.drop_left' rfl]
theorem tw_all {α : Type} (p : α → Bool) (l : List α) : ∀ x ∈ l.takeWhile p, p x = true := by
  induction l with
  | nil => simp
  | cons a l ih =>
    rw [List.takeWhile_cons]
    split
    · rename_i h
      intro x hx
      rcases List.mem_cons.1 hx with rfl | hx
      · exact h
      · exact ih x hx
    · simp
theorem dw_head {α : Type} (p : α → Bool) (l : List α) : ∀ a m, l.dropWhile p = a :: m → p a = false := by
  induction l with
  | nil => simp
  | cons b l ih =>
    intro a m h
    rw [List.dropWhile_cons] at h
    split at h
    · exact ih a m h
    · rename_i hb
      injection h with h1 h2
      subst h1
      simpa using hb
theorem sorted_ins {rs : List RV} {x : RV} (h : SortedR rs) (hno : ∀ r ∈ rs, r.name ≠ x.name) : SortedR (rs.take (atR rs x.key) ++ x :: rs.drop (atR rs x.key)) := by
  unfold atR
  obtain ⟨e1, e2⟩ := tw_take (fun r : RV => decide (r.key < x.key)) rs
  rw [e1, e2]
  have h' : SortedR ((rs.takeWhile fun r => decide (r.key < x.key)) ++ rs.dropWhile fun r => decide (r.key < x.key)) := by rw [List.takeWhile_append_dropWhile]; exact h
  unfold SortedR at h' ⊢
  rw [List.map_append, List.pairwise_append] at h'
  obtain ⟨ha, hb, hc⟩ := h'
  have hl : ∀ q ∈ rs.takeWhile fun r => decide (r.key < x.key), q.key < x.key := fun q hq => by simpa using tw_all _ rs q hq
  have hr : ∀ q ∈ rs.dropWhile fun r => decide (r.key < x.key), x.key < q.key := by
    intro q hq
    cases hd : rs.dropWhile fun r => decide (r.key < x.key) with
    | nil => rw [hd] at hq; simp at hq
    | cons a m =>
      have h0 : ¬ a.key < x.key := by simpa using dw_head _ rs a m hd
      have ham : a ∈ rs := (List.dropWhile_sublist _).subset (by rw [hd]; simp)
      have h1 : x.key < a.key := lt_of_not h0 fun e => hno a ham (key_inj e)
      rw [hd] at hq hb
      rcases List.mem_cons.1 hq with rfl | hq
      · exact h1
      · simp only [List.map_cons, List.pairwise_cons] at hb
        exact List.lt_trans h1 (hb.1 _ (List.mem_map_of_mem hq))
  rw [List.map_append, List.map_cons, List.pairwise_append]
  refine ⟨ha, List.pairwise_cons.2 ⟨fun k hk => ?_, hb⟩, fun a hma b hmb => ?_⟩
  · obtain ⟨q, hq, rfl⟩ := List.mem_map.1 hk
    exact hr q hq
  · obtain ⟨q, hq, rfl⟩ := List.mem_map.1 hma
    rcases List.mem_cons.1 hmb with rfl | hmb
    · exact hl q hq
    · exact hc _ (List.mem_map_of_mem hq) _ hmb
set_option maxRecDepth 100000 in
set_option maxHeartbeats 4000000 in
theorem rappend_new (s : ByteArray) (A : Option Addr) (n c : Nat) (w : World) (R : Nat) (v : Value) (r1 r2 : List RV) (most fuse : Int) (xs : List UInt8) (hs : s.size ≤ 140737488355328) (hf : fullB s = true) (hno : ∀ q ∈ r1 ++ r2, q.name ≠ s) (hat : atR (r1 ++ r2) s.data.toList = r1.length) (hso : SortedR (r1 ++ ⟨s, [], 0, .slice none 0 0⟩ :: r2)) (hfew : (r1 ++ r2).length + 1 ≤ 1000) (h : RefAt w R v (r1 ++ r2) most fuse false)
    (hu : usedR (r1 ++ r2) ≤ 4194304) (hx : Bs w A xs) (hn : n = xs.length) (hA : A = none → c = 0) (hxR : ∀ ad, A = some ad → xs = [] ∨ ad.block ≠ R) (hfit : n = 0 ∨ (n : Int) + (usedR (r1 ++ r2) : Int) ≤ most) :
    Calls Tryd.prog 62 #[.pointer (some ⟨R, 0, none⟩), .string s, .slice A n c] w fun e w' => ∃ u, RGone (hitE fuse) w R v (r1 ++ r2) (r1 ++ ⟨s, xs, 0, u⟩ :: r2) most (decA fuse) (decide (fuse = 1)) e w' := by
  have h3 := h.rb.c3
  have h1 := h.rb.c1
  have H := Lib.hid h
  have HSo := Lib.hid hso
  obtain ⟨u, hu'⟩ : ∃ u, u = usedR (r1 ++ r2) := ⟨_, rfl⟩
  have HU : Hid (∀ m, Calls Tryd.prog 26 #[.pointer (some ⟨R, 0, none⟩)] (w.drewN m) fun e w' => e = .returned (.int .i64 (u : Nat)) ∧ w' = w.drewN m) := Lib.hid fun m => by rw [hu']; exact rused_any _ R v _ most fuse false (h.kept ((Kept.refl (fun _ => False) w).drewN m) (by simp)) (by omega)
  have HF := Lib.hid (rfull_any s w hs)
  rw [hf] at HF
  have hm1 : 0 ≤ most := h.most0.1
  have hm2 : most ≤ 4194304 := h.most0.2
  have hu9 : (u : Int) ≤ 4194304 := by omega
  have hnl : n ≤ 4194304 := by rcases hfit with h | h <;> omega
  have hbn : n ≤ 4194304 := by rcases hfit with h | h <;> omega
  have Hfuse := Lib.hid h.fuse0
  have HX := Lib.hid hx
  have HXR := Lib.hid hxR
  have Hn := Lib.hid hn
  have HA := Lib.hid hA
  have hfit' : n = 0 ∨ (n : Int) + (u : Int) ≤ most := by rw [hu']; exact hfit
  have Hbn := Lib.hid hbn
  have HNo := Lib.hid hno
  have HAt := Lib.hid hat
  have HFew := Lib.hid hfew
  obtain ⟨b, hb⟩ : ∃ b, b = decide (fuse = 1) := ⟨_, rfl⟩
  have HE0 := Lib.hid (show hitE fuse = if b = true then 13 else 0 by rw [hb, rhitE])
  have HH : Hid (∀ W, Kept (fun _ => False) w W → Calls Tryd.prog 84 #[.pointer (some ⟨R, 0, none⟩)] W fun e w' => e = .returned (.bool b) ∧ RWent w w' R v (r1 ++ r2) v (r1 ++ r2) most (decA fuse) b ∧ Kept (fun k => k = R) w w') := Lib.hid fun W hW => by
    have hW' := h.kept hW (by simp)
    refine (rhit_any W R v most fuse hW'.rb h.fuse0).mono ?_
    rintro e w' ⟨he, hrb, hk⟩
    rw [← hb] at he hrb
    have hkk : Kept (fun k => k = R) w w' := (hW.mono fun _ _ h => h.elim).trans' hk
    exact ⟨he, h.fields hrb hkk h.most0 (decA0 h.fuse0), hkk⟩
  rw [← hb]
  clear h hs hf hso hu hx hn hA hxR hfit hu' hb hno hat hfew
  cases b
  all_goals (rcases Nat.eq_zero_or_pos n with hz | hz)
  all_goals first
    | subst hz
    | (have hn' : (0 : Int) < (n : Int) := by omega
       have hcmp : ¬ most - (u : Int) < (n : Int) := by omega)
  all_goals clear hfit' hbn
  all_goals go_enter Tryd.func62, Tryd.ntmps62
  all_goals go_wp2_with (go_at_call 85; refine HF.out.mono ?_; rintro e w ⟨rfl, rfl⟩)
  all_goals first | go_quiet (exact Calls.quiet_of_same (HU.out _)) | go_quiet (fail)
  all_goals go_upto_region 11 with (first
    | (go_at_call 84; refine (HH.out _ ((Kept.refl _ w).drewN _)).mono ?_; rintro e w1 ⟨rfl, hw, hk⟩; have HW := Lib.hid hw; have HK := Lib.hid hk; clear hw hk)
    | (go_at_call 67; have hq := HP.out; clear hq; refine (rfind_some _ R _ r1 r2 ⟨s, [], 0, .slice none 0 0⟩ most _ _ HSo.out HP.out.1).mono ?_; rintro e w2 ⟨rfl, rfl⟩)
    | (go_at_call 67; refine (rfind_none s _ R v _ most _ _ HNo.out HW.out.at_).mono ?_; rintro e w1 ⟨rfl, rfl⟩)
    | (go_at_call 87; refine (rput_any _ R v r1 r2 s [] 0 none 0 most _ _ HW.out.at_ HAt.out ⟨World.ownsRow_nil _ _ _ _, Nat.le_refl _, Nat.zero_le _⟩ (by simp [Value.ownBlock]) HFew.out).mono ?_; rintro e w2 ⟨rfl, v2, hp⟩; have HP := Lib.hid hp; clear hp))
  all_goals
    have HW2 : Hid (RWent w w2 R v (r1 ++ r2) v2 (r1 ++ ⟨s, [], 0, .slice none 0 0⟩ :: r2) most (decA fuse) _) := Lib.hid (HW.out.trans ⟨HP.out.1, HP.out.2.1.mono fun k _ e => by subst e; simp [rfoot], fun k hk => by
      rcases HP.out.2.2 k hk with h | h | ⟨q, hq, h⟩
      · exact .inl (by subst h; simp [rfoot])
      · exact .inr h
      · have hq' : q = ⟨s, [], 0, .slice none 0 0⟩ ∨ q ∈ r1 ++ r2 := by
          simp only [List.mem_append, List.mem_cons] at hq ⊢
          rcases hq with hq | hq | hq <;> simp [hq]
        rcases hq' with rfl | hq'
        · simp [Value.ownBlock] at h
        · exact .inl (mem_rfoot hq' h)⟩)
    have HK2 := Lib.hid (HK.out.trans' HP.out.2.1)
  all_goals
    obtain ⟨Av, cv, hv, hf⟩ := HW2.out.at_.form
    obtain ⟨G, rfl, hG, -, hc1, -, hfz⟩ := hf.at_ (show (r1 ++ ⟨s, [], 0, .slice none 0 0⟩ :: r2)[r1.length]? = some ⟨s, [], 0, .slice none 0 0⟩ by simp)
    have hf1 := hfz 1 (by omega)
    have h0 := HW2.out.at_.rb.c0
    rw [hv] at h0
    have hGR : ¬ G = R := fun e => HW2.out.at_.sepR (by rw [hG, e])
    have hRG : ¬ R = G := fun e => hGR e.symm
    obtain ⟨nn, hnn⟩ : ∃ nn, nn = (r1 ++ ⟨s, [], 0, .slice none 0 0⟩ :: r2).length := ⟨_, rfl⟩
    obtain ⟨k, hk⟩ : ∃ k, k = r1.length := ⟨_, rfl⟩
    rw [← hnn] at h0
    rw [← hk] at hc1 hf1 ⊢
    have hkn : (k : Int) < (nn : Int) := by rw [hk, hnn]; simp; omega
    have Hk := Lib.hid hk
    have HG := Lib.hid hG
    have HS0 : Hid (∀ W, Kept (fun _ => False) w2 W → W.cell? ⟨R, 0, none⟩ = some (.slice (some ⟨G, 0, none⟩) nn cv) ∧ W.cell? ⟨G, k * 3 + 1, none⟩ = some (.slice none 0 0) ∧ W.frozen? ⟨G, k * 3 + 1, none⟩ = false) := Lib.hid fun W hW => by
      refine ⟨hW.cell h0 (by simp), hW.cell hc1 (by simp), ?_⟩
      have hlt : G < w2.heap.size := World.block_lt_of_cell? w2 ⟨G, k * 3 + 1, none⟩ hc1
      rw [← hf1]
      exact World.frozen?_of_block (hW.block G hlt (by simp))
    clear hv hf hG hfz hnn hk h1 h3
  all_goals go_region_law (first
    | (refine step_append_bs rfl _ _ rfl _ v4 _ _ rfl HV4.out A _ c xs rfl ((HX.out.kept' (HK2.out) (fun ad e => (HXR.out ad e).imp id fun h e2 => h e2)).kept HK4.out (by simp)) Hn.out HA.out (by have := Hbn.out; show 0 + _ ≤ 1000000000; omega) HK4.out.size ?_; intro v5 w5 hown hgrow; obtain ⟨A5, c5, rfl⟩ := own_slice hown; have HV5 := Lib.hid hown; have HK5 := Lib.hid (HK4.out.grown hgrow (fun k e hk => by have h9 : w2.heap.size ≤ k := own_ge HV4.out k e; omega)); obtain ⟨hs5, hc5, hf5⟩ := HS0.out _ HK5.out; clear hown hgrow)
    | (go_simp; go_at_call 20; refine (copy_any _ none 0 0 [] rfl (by omega) (Bs.nil _ _) (fun _ => rfl)).mono ?_; rintro e w4 ⟨v4, rfl, hown, hk4⟩; have HV4 := Lib.hid hown; have HK4 := Lib.hid (((Kept.refl (fun _ => False) w2).drew).trans' hk4); obtain ⟨hs4, hc4, hf4⟩ := HS0.out _ HK4.out; clear hown hk4))
  all_goals go_wp2
  all_goals
    go_ret
    have hE := bytes_end (ys := xs) HW2.out.at_ HG.out HK5.out (by have := HV5.out; rw [Hn.out] at this; simpa using this) (Nat.le_refl _) (Nat.zero_le _) (by rw [← Hn.out]; exact Hbn.out)
    rw [← Hk.out, ← Hn.out] at hE
    exact ⟨_, ret_int (by rw [HE0.out]; rfl), _, HW2.out.trans hE⟩
end Go.Proofs.YthkncfdgfbnchaaDoor
end
