import Derived.Test.YtcifhfdjigfeiaaGreatDoorZc
import Derived.WalkMore
/-! couranthelp.CopyPairs; slices.Clone over pairs. -/
section
set_option linter.unusedVariables false
set_option linter.unusedSimpArgs false
namespace Go.Proofs.YtcifhfdjigfeiaaGreatDoor
open Go.RowKit

theorem own_low {w : World} {b1 b2 e size n : Nat} {v : Value} {xs : List Value} (h : w.ownsRow b1 e size v n xs) (hb : b2 ≤ b1) : w.ownsRow b2 e size v n xs := by
  refine ⟨h.1, h.2.imp id ?_⟩
  rintro ⟨g, cap, cur, h1, h2, h3⟩
  exact ⟨g, cap, cur, h1, Nat.le_trans hb h2, h3⟩
theorem build0P (w : World) : (Instr.buildSlice 30 0 #[]).run Tryz.prog w = .ok (.slice (some ⟨w.heap.size, 0, none⟩) 0 0) (w.alloc (.cells #[] 53)) := by kernel_rfl
/-- append(s, xs...) onto a slice of pairs of the call's own. -/
theorem wpList_append_ps {w : World} {ops : Array Oper} {rest : List Oper} {o : Oper} {a : Act} {Q : Exit → Act → World → Prop} (hgd : o.guard = none) (s x : Operand)
    (ho : o.op = .call { callee := .builtin .append, args := #[s, x], argTypes := #[30, 30] })
    (base : Nat) (v : Value) (n : Nat) (ys : List Value) (hs : a.eval s = v) (hown : w.ownsRow base 53 3 v n ys)
    (A : Option Addr) (m c : Nat) (xs : List Value) (hx : a.eval x = .slice A m c) (hC : Cs w A xs) (hm : xs.length = m * 3) (hone : ∀ u ∈ xs, u.oneCell' = true) (hA : A = none → c = 0)
    (h63 : n + m ≤ 1000000) (hbase : base ≤ w.heap.size)
    (h : ∀ v' w', w'.ownsRow base 53 3 v' (n + m) (ys ++ xs) → w.grownBy w' v.ownBlock → wpList Tryz.prog ops Q rest (a.put o.dst v') w') : wpList Tryz.prog ops Q (o :: rest) a w := by
  obtain ⟨i0, hi, hz0, hz1, hz2⟩ := info_parts infoP
  cases A with
  | none =>
    have h1 := hC.1 rfl
    have h2 := hA rfl
    subst h1; subst h2
    have h3 : m = 0 := by simp at hm; omega
    subst h3
    refine wpList_append_own_none hgd s x 30 ho base 53 i0 3 Tryz.underlying30 hi v n ys hs hown hx ?_
    exact h v w (by simpa using hown) ⟨rfl, rfl, rfl, Nat.le_refl _, fun _ _ _ => rfl⟩
  | some ad =>
    refine wpList_append_own w hgd s x 30 ho base 53 i0 _ 3 48 Tryz.underlying30 hi hz0 hz1 hz2 rfl (by decide) v n ys hs hown ad m c xs hx hm (hC.2 ad rfl) hone (by unfold maxLen; omega) (by omega) hbase ?_
    intro v' w' h2 h3 _
    exact h v' w' h2 h3
set_option maxRecDepth 100000 in
set_option maxHeartbeats 4000000 in
theorem cloneP_any (w : World) (A : Option Addr) (n c : Nat) (ps : List PV) (hn : n = ps.length) (hl : n ≤ 900000) (h : PsAt w A ps) (hA : A = none → c = 0) :
    Calls Tryz.prog 34 #[.slice A n c] w fun e w' => ∃ v, e = .returned v ∧ w'.ownsRow w.heap.size 53 3 v ps.length (cellsP ps) ∧ Kept (fun _ => False) w w' := by
  cases A with
  | none =>
    have h0 := hA rfl
    have h1 : ps = [] := h.cs.1 rfl |> fun e => by
      cases ps with
      | nil => rfl
      | cons p ps => simp [cellsP, PV.cells] at e
    subst h0; subst h1
    subst hn
    clear h hA
    have hne : (binOp .eql 30 (.slice none 0 0) (.slice none 0 0)).run Tryz.prog w = .ok (.bool true) w := by kernel_rfl
    go_enter Tryz.func34, Tryz.ntmps34
    go_wp2
    go_ret
    exact ⟨_, rfl, World.ownsRow_nil _ _ _ _, Kept.refl _ _⟩
  | some a =>
    have hcs := Lib.hid h.cs
    have Hn := Lib.hid hn
    have hown : (w.alloc (.cells #[] 53)).ownsRow w.heap.size 53 3 (.slice (some ⟨w.heap.size, 0, none⟩) 0 0) 0 [] :=
      ⟨by simp, .inr ⟨w.heap.size, 0, #[], rfl, Nat.le_refl _, heap_alloc_new w _, Nat.le_refl _, by simp, by simp, by simp⟩⟩
    have HO := Lib.hid hown
    have HK : Hid (Kept (fun _ => False) w (w.alloc (.cells #[] 53))) := Lib.hid ((Kept.refl _ w).alloc _)
    have hne : (binOp .eql 30 (.slice (some a) n c) (.slice none 0 0)).run Tryz.prog w = .ok (.bool false) w := by kernel_rfl
    clear h hA hown hn
    go_enter Tryz.func34, Tryz.ntmps34
    have hb := build0P w
    go_wp2_with (at_builtin; refine wpList_append_ps rfl _ _ rfl w.heap.size _ 0 _ rfl HO.out (some a) n c (cellsP ps) rfl (hcs.out.kept HK.out (by simp)) (by rw [cellsP_len, Hn.out, Nat.mul_comm]) (cellsP_one ps) (fun e => by cases e) (by omega) HK.out.size ?_; intro v' w1 hown hgrow)
    go_ret
    simp only [Nat.zero_add, List.nil_append] at hown
    rw [Hn.out] at hown
    exact ⟨v', rfl, hown, HK.out.grown hgrow (fun k e hk => by
      have : w.heap.size = k := by simpa [Value.ownBlock, Act.eval] using e
      omega)⟩
set_option maxRecDepth 100000 in
set_option maxHeartbeats 8000000 in
theorem copyPairs_any (w : World) (A : Option Addr) (n c : Nat) (ps : List PV) (hn : n = ps.length) (hl : n ≤ 900000) (hb : ∀ p ∈ ps, p.b.length ≤ 1000000000) (h : PsAt w A ps) :
    Calls Tryz.prog 20 #[.slice A n c] w fun e w' => ∃ v qs, e = .returned v ∧ OwnP w w' v qs ∧ qs.map PV.core = ps.map PV.core := by
  have H := Lib.hid h
  have Hn := Lib.hid hn
  have Hb := Lib.hid hb
  have hn8 : (n : Int) ≤ 900000 := by omega
  clear h hn hb
  go_enter Tryz.func20, Tryz.ntmps20
  go_wp2_with fail
  go_loopw [3, 4] (fun l i wr => ∃ (k : Nat) (qs : List PV), k ≤ n ∧ i = .int .i64 k ∧ Hid (OwnP w wr l qs) ∧ Hid (qs.map PV.core = (ps.take k).map PV.core)) (fun _ i _ => n - (intOf i).toNat)
  case atStart => exact ⟨0, [], by omega, rfl, Lib.hid (OwnP.nil w), Lib.hid rfl⟩
  case round =>
    obtain ⟨k, qs, hk, rfl, ho, hc⟩ := hrel
    by_cases hlt : k < n
    · have hk9 : (k : Int) < (n : Int) := by omega
      obtain ⟨p, hp⟩ : ∃ p, ps[k]? = some p := ⟨_, List.getElem?_eq_getElem (by have := Hn.out; omega)⟩
      obtain ⟨a1, rfl, hc1, ok1⟩ := H.out k p hp
      have hbl := Hb.out p (List.mem_of_getElem? hp)
      have hq9 : qs.length = k := by
        have := congrArg List.length hc.out
        simp only [List.length_map, List.length_take] at this
        have := Hn.out; omega
      have Hq9 := Lib.hid hq9
      have x0 := ho.out.kept.cell hc1.c0 (by simp)
      have x1 := ho.out.kept.cell hc1.c1 (by simp)
      have x2 := ho.out.kept.cell hc1.c2 (by simp)
      have Hp := Lib.hid hp
      have Hok := Lib.hid (ok1.kept ho.out.kept.drew)
      have HO0 := Lib.hid (ho.out.stay (Kept.refl (fun _ => False) wr).drew)
      have HS : Hid (∀ W, Kept (fun _ => False) w W → W.cell? (a1.add (k * 3)) = some (.string p.key) ∧ W.cell? ⟨(a1.add (k * 3)).block, (a1.add (k * 3)).off + 1, none⟩ = some (.slice p.A p.b.length p.c) ∧ W.cell? ⟨(a1.add (k * 3)).block, (a1.add (k * 3)).off + 2, none⟩ = some (.bool p.gone)) := Lib.hid fun W hW => ⟨hW.cell hc1.c0 (by simp), hW.cell hc1.c1 (by simp), hW.cell hc1.c2 (by simp)⟩
      unfold PV.val at x1
      clear hp hc1 ok1 hq9
      go_upto_region 5 with fail
      go_region_held3 (fun W => W.cell? (a1.add (k * 3)) = some (.string p.key) ∧ W.cell? ⟨(a1.add (k * 3)).block, (a1.add (k * 3)).off + 1, none⟩ = some (.slice p.A p.b.length p.c) ∧ W.cell? ⟨(a1.add (k * 3)).block, (a1.add (k * 3)).off + 2, none⟩ = some (.bool p.gone)) (first | assumption | exact ⟨x0, x1, x2⟩ | exact HS.out _ HK4.out | exact HS.out _ (HK4.out.alloc _) | exact HS.out _ HN.out.kept | simp [*]) (first
        | (refine step_append_ps rfl _ _ rfl w.heap.size _ _ _ rfl (HO4.out.stay ((Kept.refl (fun _ => False) _).alloc _)).row _ 1 1 [.string p.key, .slice A4 p.b.length c4, .bool p.gone] rfl (cs_new _ _ _) rfl (by simp [Value.oneCell']) (fun e => by cases e) (by rw [Hq9.out]; omega) (HK4.out.alloc _).size ?_; intro v5 w5 hown hgrow; have HN := Lib.hid ((HO4.out.stay ((Kept.refl (fun _ => False) _).alloc _)).grow (rs := [⟨p.key, p.b, p.gone, A4, c4⟩]) hown hgrow (fun r hr => by rw [List.mem_singleton.1 hr]; exact own_kept HV4.out ((Kept.refl (fun _ => False) _).alloc _) (by simp))); clear hown hgrow)
        | (go_at_call 41; refine (copy_any _ p.A p.b.length p.c p.b rfl hbl Hok.out.1 Hok.out.2).mono ?_; rintro e w4 hP; obtain ⟨A4, c4, rfl, ha, -, -⟩ := ClonePost.acc hP; have HV4 := Lib.hid (own_low ha.1 HO0.out.kept.size); have HO4 := Lib.hid (HO0.out.stay ha.2); have HK4 := Lib.hid HO4.out.kept; clear hP ha))
      go_wp2
      go_roundw
      case rel =>
        refine ⟨k + 1, _, by omega, by go_num, HN, Lib.hid ?_⟩
        rw [List.map_append, hc.out, List.take_add_one, Hp.out, List.map_append]
        rfl
      case measure => simp [intOf]; omega
    · obtain rfl : k = n := by omega
      go_wp2
      go_ret
      refine ⟨_, qs, rfl, ho.out, ?_⟩
      have h1 := hc.out
      rwa [show ps.take k = ps by rw [Hn.out, List.take_length]] at h1
end Go.Proofs.YtcifhfdjigfeiaaGreatDoor
end

/-! courantref22.at; keyed.place. -/
section
set_option linter.unusedVariables false
set_option linter.unusedSimpArgs false
namespace Go.Proofs.YtcifhfdjigfeiaaGreatDoor
open Go.RowKit

/-- Where a name stands, or would. -/
def atP (rs : List PV) (x : List UInt8) : Nat := (rs.takeWhile fun r => decide (kb r.key < x)).length
theorem atP_le (rs : List PV) (x : List UInt8) : atP rs x ≤ rs.length := (List.takeWhile_sublist _).length_le
theorem atP_eq {rs : List PV} {x : List UInt8} {k : Nat} (h : ∀ j r, j < k → rs[j]? = some r → kb r.key < x) (h2 : k = rs.length ∨ ∃ r, rs[k]? = some r ∧ ¬ kb r.key < x) (hk : k ≤ rs.length) : atP rs x = k := by
  unfold atP
  induction rs generalizing k with
  | nil => simp at hk; simp [hk]
  | cons q rs ih =>
    cases k with
    | zero =>
      rcases h2 with h2 | ⟨r, hr, hx⟩
      · simp at h2
      · simp at hr; subst hr
        simp [List.takeWhile_cons, hx]
    | succ k =>
      have hq := h 0 q (by omega) rfl
      rw [List.takeWhile_cons, if_pos (by simpa using hq), List.length_cons]
      rw [ih (k := k) (fun j r hj hr => h (j + 1) r (by omega) (by simpa using hr)) (by rcases h2 with h2 | ⟨r, hr, hx⟩; exact .inl (by simpa using h2); exact .inr ⟨r, by simpa using hr, hx⟩) (by simpa using hk)]
set_option maxHeartbeats 2000000 in
theorem refAt_any (s : ByteArray) (w : World) (A : Option Addr) (n c : Nat) (ps : List PV) (hn : n = ps.length) (hn9 : n ≤ 1000000) (h : PsAt w A ps) :
    Calls Tryz.prog 46 #[.slice A n c, .string s] w fun e w' => e = .returned (.int .i64 (atP ps (kb s))) ∧ w' = w := by
  have Hn := Lib.hid hn
  have HR := Lib.hid h
  have hn8 : (n : Int) ≤ 1000000 := by omega
  clear h hn
  go_enter Tryz.func46, Tryz.ntmps46
  go_wp2_with fail
  go_loop [5] (fun i => ∃ k : Nat, k ≤ n ∧ i = .int .i64 k ∧ Hid (∀ j r, j < k → ps[j]? = some r → kb r.key < kb s)) (fun i => n - (intOf i).toNat)
  case atStart => exact ⟨0, by omega, rfl, Lib.hid fun j r hj => by omega⟩
  case round =>
    obtain ⟨k, hk, rfl, hpre⟩ := hrel
    by_cases hlt : k < n
    · have hk9 : (k : Int) < (n : Int) := by omega
      obtain ⟨r, hr⟩ : ∃ r, ps[k]? = some r := ⟨_, List.getElem?_eq_getElem (by have := Hn.out; omega)⟩
      obtain ⟨ad, rfl, hc, -⟩ := HR.out k r hr
      have hc0 := hc.c0
      have hl := str_lss r.key s
      have Hr := Lib.hid hr
      clear hr hc
      by_cases hb : kb r.key < kb s
      · rw [show decide (r.key.data.toList < s.data.toList) = true from decide_eq_true hb] at hl
        have Hb := Lib.hid hb
        clear hb
        go_wp2
        go_round
        case rel => exact ⟨k + 1, by omega, by go_num, Lib.hid fun j q hj hq => by
          rcases Nat.lt_or_ge j k with h | h
          · exact hpre.out j q h hq
          · have : j = k := by omega
            subst this
            rw [Hr.out] at hq
            injection hq with hq
            rw [← hq]; exact Hb.out⟩
        case measure => simp [intOf]; omega
      · rw [show decide (r.key.data.toList < s.data.toList) = false from decide_eq_false hb] at hl
        have Hb := Lib.hid hb
        clear hb
        go_wp2
        go_ret
        exact ⟨ret_int (by rw [atP_eq hpre.out (.inr ⟨r, Hr.out, Hb.out⟩) (by have := Hn.out; omega)]), rfl⟩
    · obtain rfl : k = n := by omega
      go_wp2
      go_ret
      exact ⟨ret_int (by rw [atP_eq hpre.out (.inl Hn.out) (by have := Hn.out; omega)]), rfl⟩
/-- Does a key stand there? -/
def isP (ps : List PV) (s : ByteArray) : Bool := match ps[atP ps (kb s)]? with | some p => decide (p.key = s) | none => false
set_option maxRecDepth 100000 in
set_option maxHeartbeats 4000000 in
theorem place_any (s : ByteArray) (w : World) (A : Option Addr) (n c : Nat) (ps : List PV) (hn : n = ps.length) (hn9 : n ≤ 1000000) (h : PsAt w A ps) :
    Calls Tryz.prog 55 #[.slice A n c, .string s] w fun e w' => e = .returned (.tuple #[.int .i64 (atP ps (kb s)), .bool (isP ps s)]) ∧ Kept (fun _ => False) w w' := by
  have Hn := Lib.hid hn
  have HR := Lib.hid h
  have hn8 : (n : Int) ≤ 1000000 := by omega
  clear h hn
  go_enter Tryz.func55, Tryz.ntmps55
  go_wp2_with fail
  go_step3
  go_wp2_with fail
  go_step3
  go_wp2_with fail
  go_loopw [6, 13] (fun at_ i wr => ∃ k : Nat, k ≤ n ∧ i = .int .i64 k ∧ at_ = .int .i64 n ∧ Hid (∀ j r, j < k → ps[j]? = some r → kb r.key < kb s) ∧ Hid (Kept (fun _ => False) w wr)) (fun _ i _ => n - (intOf i).toNat)
  case atStart => exact ⟨0, by omega, rfl, rfl, Lib.hid fun j r hj => by omega, Lib.hid (Kept.refl _ _)⟩
  case round =>
    obtain ⟨k, hk, rfl, rfl, hpre, hK⟩ := hrel
    by_cases hlt : k < n
    · have hk9 : (k : Int) < (n : Int) := by omega
      obtain ⟨r, hr⟩ : ∃ r, ps[k]? = some r := ⟨_, List.getElem?_eq_getElem (by have := Hn.out; omega)⟩
      obtain ⟨ad, rfl, hc, -⟩ := HR.out k r hr
      have x0 := hK.out.cell hc.c0 (by simp)
      have x1 := hK.out.cell hc.c1 (by simp)
      have x2 := hK.out.cell hc.c2 (by simp)
      obtain ⟨W0, hW0⟩ : ∃ W0, W0 = wr.alloc (.cells #[.string r.key, .slice r.A r.b.length r.c, .bool r.gone] 53) := ⟨_, rfl⟩
      obtain ⟨D, hD⟩ : ∃ D, D = wr.heap.size := ⟨_, rfl⟩
      have hB : BoxP W0 D r := by rw [hW0, hD]; exact boxP_new wr r
      have hK0 : Kept (fun _ => False) w W0 := by rw [hW0]; exact hK.out.alloc _
      have d0 := hB.c0
      have HK0 := Lib.hid hK0
      have HC : Hid (∀ W, Kept (fun _ => False) w W → W.cell? (ad.add (k * 3)) = some (.string r.key)) := Lib.hid fun W hW => hW.cell hc.c0 (by simp)
      have hl := str_lss r.key s
      have Hr := Lib.hid hr
      unfold PV.val at x1
      clear hr hc hB hK0
      go_upto_region 5 with fail
      rw [← hD, ← hW0]
      have z0 := HC.out W0 HK0.out
      clear hW0 hD x0 x1 x2
      by_cases hb : kb r.key < kb s
      · rw [show decide (r.key.data.toList < s.data.toList) = true from decide_eq_true hb] at hl
        have Hb := Lib.hid hb
        clear hb
        go_wp2
        go_roundw
        case rel => exact ⟨k + 1, by omega, by go_num, rfl, Lib.hid fun j q hj hq => by
          rcases Nat.lt_or_ge j k with h | h
          · exact hpre.out j q h hq
          · have : j = k := by omega
            subst this
            rw [Hr.out] at hq
            injection hq with hq
            rw [← hq]; exact Hb.out, HK0⟩
        case measure => simp [intOf]; omega
      · rw [show decide (r.key.data.toList < s.data.toList) = false from decide_eq_false hb] at hl
        have Hb := Lib.hid hb
        clear hb
        have hat : atP ps (kb s) = k := atP_eq hpre.out (.inr ⟨r, Hr.out, Hb.out⟩) (by have := Hn.out; omega)
        have HI : Hid (isP ps s = decide (r.key = s)) := Lib.hid (by unfold isP; rw [hat, Hr.out])
        obtain ⟨β, hβ⟩ : ∃ β, β = decide (r.key = s) := ⟨_, rfl⟩
        have he := str_eq r.key s
        rw [← hβ] at HI he
        have Hat := Lib.hid hat
        clear hβ hat
        go_wp2
        go_quiet (fail)
        go_wp2
        rw [Exit.noGoto_ret]
        go_ret2
        exact ⟨by rw [Hat.out, HI.out]; rfl, HK0.out.drewN _⟩
    · obtain rfl : k = n := by omega
      have hat : atP ps (kb s) = k := atP_eq hpre.out (.inl Hn.out) (by have := Hn.out; omega)
      have HI : Hid (isP ps s = false) := Lib.hid (by unfold isP; rw [hat, List.getElem?_eq_none (by have := Hn.out; omega)])
      have Hat := Lib.hid hat
      clear hat
      go_wp2
      go_quiet (fail)
      go_wp2
      rw [Exit.noGoto_ret]
      go_ret2
      exact ⟨by rw [Hat.out, HI.out]; rfl, hK.out.drewN _⟩
end Go.Proofs.YtcifhfdjigfeiaaGreatDoor
end

/-! Parts of rows of pairs; what Put makes of lists (plain). -/
section
set_option linter.unusedVariables false
set_option linter.unusedSimpArgs false
namespace Go.Proofs.YtcifhfdjigfeiaaGreatDoor
open Go.RowKit

theorem add_add3 (ad : Addr) (k j : Nat) : (ad.add (k * 3)).add (j * 3) = ad.add ((k + j) * 3) := by
  obtain ⟨b, o, s⟩ := ad
  unfold Addr.add
  by_cases h1 : k = 0 <;> by_cases h2 : j = 0
  · subst h1; subst h2; simp
  · subst h1; simp [h2]
  · subst h2; simp [h1]
  · rw [if_neg (by omega), if_neg (by omega), if_neg (by omega)]
    simp only [Addr.mk.injEq, true_and, and_true]
    omega
theorem PsAt.take {w : World} {A : Option Addr} {ps : List PV} (h : PsAt w A ps) (k : Nat) : PsAt w A (ps.take k) := fun j p hp => by
  rw [List.getElem?_take] at hp
  split at hp
  · exact h j p hp
  · cases hp
theorem PsAt.drop {w : World} {A : Option Addr} {ps : List PV} (h : PsAt w A ps) (k : Nat) : PsAt w (A.map (·.add (k * 3))) (ps.drop k) := fun j p hp => by
  rw [List.getElem?_drop] at hp
  obtain ⟨ad, h1, h2, h3⟩ := h _ p hp
  refine ⟨ad.add (k * 3), by rw [h1]; rfl, ?_, h3⟩
  rw [add_add3]
  exact h2
theorem PsAt.nil (w : World) (A : Option Addr) : PsAt w A [] := fun j p hp => by simp at hp
/-- s[k:], as the slice that comes of it. -/
theorem from_form (A : Option Addr) (l k c : Nat) (qs : List PV) (hl : l = qs.length) (hk : k ≤ l) (hc : l ≤ c) (hA : A = none → c = 0) :
    ∃ A2, (∀ W, (Instr.slice 30 (.slice A l c) (some (.int .i64 k)) none none).run Tryz.prog W = .ok (.slice A2 (l - k) (c - k)) W) ∧ (∀ W, PsAt W A qs → PsAt W A2 (qs.drop k)) ∧ (A2 = none → c - k = 0) ∧ l - k = (qs.drop k).length ∧ l - k ≤ c - k := by
  refine ⟨if c = k then A else A.map (·.add (k * 3)), fun W => slice_fromP W A l k c hk hc, fun W h => ?_, fun e => ?_, by rw [List.length_drop, hl], by omega⟩
  · by_cases h0 : c = k
    · rw [if_pos h0]
      have : qs.drop k = [] := List.drop_eq_nil_of_le (by omega)
      rw [this]; exact PsAt.nil _ _
    · rw [if_neg h0]; exact h.drop k
  · by_cases h0 : c = k
    · omega
    · rw [if_neg h0] at e
      cases A with
      | none => have := hA rfl; omega
      | some a => cases e
/-- What Put does with one pair, by what is compared. -/
abbrev Core := ByteArray × List UInt8 × Bool
def coreAt (l : List Core) (x : ByteArray) : Nat := (l.takeWhile fun c => decide (kb c.1 < kb x)).length
def coreIs (l : List Core) (x : ByteArray) : Bool := match l[coreAt l x]? with | some c => decide (c.1 = x) | none => false
def put1 (l : List Core) (c : Core) : List Core := l.take (coreAt l c.1) ++ (if c.2.2 then [] else [(c.1, c.2.1, false)]) ++ l.drop (if coreIs l c.1 then coreAt l c.1 + 1 else coreAt l c.1)
def putC (l ms : List Core) : List Core := ms.foldl put1 l
theorem coreAt_map (ps : List PV) (x : ByteArray) : coreAt (ps.map PV.core) x = atP ps (kb x) := by
  unfold coreAt atP
  rw [List.takeWhile_map, List.length_map]
  rfl
theorem coreIs_map (ps : List PV) (x : ByteArray) : coreIs (ps.map PV.core) x = isP ps x := by
  unfold coreIs isP
  rw [coreAt_map, List.getElem?_map]
  cases ps[atP ps (kb x)]? <;> rfl
theorem atP_le' (ps : List PV) (x : List UInt8) : atP ps x ≤ ps.length := atP_le ps x
/-- The list that comes of it, with its own bytes. -/
def new1 (qs : List PV) (p q : PV) : List PV := qs.take (atP qs (kb p.key)) ++ (if p.gone then [] else [q]) ++ qs.drop (if isP qs p.key then atP qs (kb p.key) + 1 else atP qs (kb p.key))
theorem new1_core (qs : List PV) (p q : PV) (h : q.core = (p.key, p.b, false)) : (new1 qs p q).map PV.core = put1 (qs.map PV.core) p.core := by
  unfold new1 put1
  show _ = (qs.map PV.core).take (coreAt (qs.map PV.core) p.key) ++ (if p.gone then [] else [(p.key, p.b, false)]) ++ (qs.map PV.core).drop (if coreIs (qs.map PV.core) p.key then coreAt (qs.map PV.core) p.key + 1 else coreAt (qs.map PV.core) p.key)
  rw [coreAt_map, coreIs_map, List.map_append, List.map_append, List.map_take, List.map_drop]
  cases p.gone <;> simp [h]
theorem isP_lt {ps : List PV} {x : ByteArray} (h : isP ps x = true) : atP ps (kb x) < ps.length := by
  unfold isP at h
  split at h
  · rename_i p hp; exact (List.getElem?_eq_some_iff.1 hp).1
  · cases h
theorem new1_len (qs : List PV) (p q : PV) : (new1 qs p q).length ≤ qs.length + 1 := by
  unfold new1
  have := atP_le' qs (kb p.key)
  simp only [List.length_append, List.length_take, List.length_drop]
  split <;> split <;> simp <;> omega
theorem putC_snoc (l ms : List Core) (k : Nat) (c : Core) (h : ms[k]? = some c) : putC l (ms.take (k + 1)) = put1 (putC l (ms.take k)) c := by
  unfold putC
  rw [List.take_add_one, h, List.foldl_append]
  rfl
/-- A row of pairs that is built anew from world W3 on, with bytes that are the call's own. -/
structure Bld (w W3 W : World) (v : Value) (qs : List PV) : Prop where
  row : W.ownsRow W3.heap.size 53 3 v qs.length (cellsP qs)
  own : ∀ q ∈ qs, W.ownsRow w.heap.size 5 1 q.val q.b.length (q.b.map bv)
  kept : Kept (fun _ => False) W3 W
section
variable {w W3 W W' : World} {v v' : Value} {qs : List PV}
theorem Bld.nil (w W3 : World) : Bld w W3 W3 (.slice none 0 0) [] := ⟨World.ownsRow_nil _ _ _ _, fun q h => by simp at h, Kept.refl _ _⟩
theorem Bld.stay (h : Bld w W3 W v qs) (hk : Kept (fun _ => False) W W') : Bld w W3 W' v qs := ⟨own_kept h.row hk (by simp), fun q hq => own_kept (h.own q hq) hk (by simp), h.kept.trans' hk⟩
theorem Bld.grow {rs : List PV} (h : Bld w W3 W v qs) (ho : W'.ownsRow W3.heap.size 53 3 v' (qs.length + rs.length) (cellsP qs ++ cellsP rs)) (hg : W.grownBy W' v.ownBlock) (hr : ∀ r ∈ rs, W.ownsRow w.heap.size 5 1 r.val r.b.length (r.b.map bv)) : Bld w W3 W' v' (qs ++ rs) := by
  have hK : Kept (fun k => v.ownBlock = some k) W W' := (Kept.refl _ W).grown hg fun k e _ => e
  refine ⟨by rw [List.length_append, cellsP_append]; exact ho, fun q hq => ?_, h.kept.grown hg fun k e hk => by have := own_ge h.row k e; omega⟩
  rcases List.mem_append.1 hq with hq | hq
  · exact own_kept (h.own q hq) hK fun k e => own_apart h.row (h.own q hq) k e
  · exact own_kept (hr q hq) hK fun k e => own_apart h.row (hr q hq) k e
theorem Bld.ownP (h : Bld w W3 W v qs) (hk : Kept (fun _ => False) w W3) : OwnP w W v qs := ⟨own_low h.row hk.size, h.own, hk.trans' h.kept⟩
theorem OwnP.vals (h : OwnP w W v qs) (hk : Kept (fun _ => False) W W') {rs : List PV} (hs : ∀ r ∈ rs, r ∈ qs) : ∀ r ∈ rs, W'.ownsRow w.heap.size 5 1 r.val r.b.length (r.b.map bv) := fun r hr => own_kept (h.own r (hs r hr)) hk (by simp)
end
theorem mem_take {qs : List PV} {k : Nat} : ∀ r ∈ qs.take k, r ∈ qs := fun r h => List.mem_of_mem_take h
theorem mem_drop {qs : List PV} {k : Nat} : ∀ r ∈ qs.drop k, r ∈ qs := fun r h => List.mem_of_mem_drop h
end Go.Proofs.YtcifhfdjigfeiaaGreatDoor
end

/-! courantref22.Put. -/
section
set_option linter.unusedVariables false
set_option linter.unusedSimpArgs false
namespace Go.Proofs.YtcifhfdjigfeiaaGreatDoor
open Go.RowKit

theorem Core_def (p : PV) : p.core = (p.key, p.b, p.gone) := rfl
set_option maxRecDepth 100000 in
set_option maxHeartbeats 8000000 in
theorem refPut_any (w : World) (A B : Option Addr) (n c m d : Nat) (ps ms : List PV) (hn : n = ps.length) (hm : m = ms.length) (hl : n + m ≤ 400000) (hb : ∀ p ∈ ps, p.b.length ≤ 1000000000) (hb2 : ∀ p ∈ ms, p.b.length ≤ 1000000000) (h : PsAt w A ps) (h2 : PsAt w B ms) :
    Calls Tryz.prog 23 #[.slice A n c, .slice B m d] w fun e w' => ∃ v qs, e = .returned v ∧ OwnP w w' v qs ∧ qs.map PV.core = putC (ps.map PV.core) (ms.map PV.core) := by
  have HC := Lib.hid (copyPairs_any w A n c ps hn (by omega) hb h)
  have H := Lib.hid h2
  have Hn := Lib.hid hn
  have Hm := Lib.hid hm
  have Hb := Lib.hid hb2
  have hm8 : (m : Int) ≤ 400000 := by omega
  clear h h2 hn hm hb hb2
  go_enter Tryz.func23, Tryz.ntmps23
  go_wp2_with (go_at_call 20; refine HC.out.mono ?_; rintro e w1 ⟨v1, q1, rfl, ho, hc⟩; have HO1 := Lib.hid ho; have HC1 := Lib.hid hc; clear ho hc)
  go_loopw [5, 6] (fun l i wr => ∃ (k : Nat) (qs : List PV), k ≤ m ∧ i = .int .i64 k ∧ Hid (OwnP w wr l qs) ∧ Hid (qs.map PV.core = putC (ps.map PV.core) ((ms.map PV.core).take k)) ∧ Hid (qs.length ≤ n + k)) (fun _ i _ => m - (intOf i).toNat)
  case atStart => exact ⟨0, q1, by omega, rfl, HO1, Lib.hid (by simpa [putC] using HC1.out), Lib.hid (by have := congrArg List.length HC1.out; simp only [List.length_map] at this; rw [this, Hn.out]; omega)⟩
  case round =>
    obtain ⟨k, qs, hk, rfl, ho, hcq, hql⟩ := hrel
    by_cases hlt : k < m
    · have hk9 : (k : Int) < (m : Int) := by omega
      obtain ⟨p, hp⟩ : ∃ p, ms[k]? = some p := ⟨_, List.getElem?_eq_getElem (by have := Hm.out; omega)⟩
      obtain ⟨ad, rfl, hc1, ok1⟩ := H.out k p hp
      have hbl := Hb.out p (List.mem_of_getElem? hp)
      have x0 := ho.out.kept.cell hc1.c0 (by simp)
      have x1 := ho.out.kept.cell hc1.c1 (by simp)
      have x2 := ho.out.kept.cell hc1.c2 (by simp)
      obtain ⟨Av, cv, hv, hA, hcv, hat⟩ := ho.out.at_
      obtain ⟨l, hl9⟩ : ∃ l, l = qs.length := ⟨_, rfl⟩
      obtain ⟨j, hj⟩ : ∃ j, j = atP qs (kb p.key) := ⟨_, rfl⟩
      have hjl : j ≤ l := by rw [hj, hl9]; exact atP_le' _ _
      rw [← hl9] at hv hcv
      obtain ⟨A2, hs2, hp2, hA2, hl2, hc2⟩ := from_form Av l j cv qs hl9 hjl hcv hA
      obtain ⟨lr, hlr⟩ : ∃ lr, lr = l - j := ⟨_, rfl⟩
      obtain ⟨cr, hcr⟩ : ∃ cr, cr = cv - j := ⟨_, rfl⟩
      rw [← hlr] at hs2 hl2 hc2
      rw [← hcr] at hs2 hA2 hc2
      have Hlr := Lib.hid hlr
      have Hcr := Lib.hid hcr
      have hlr9 : lr + j = l := by omega
      have HLr := Lib.hid hlr9
      clear hlr hcr hlr9
      obtain ⟨W0, hW0⟩ : ∃ W0, W0 = wr.alloc (.cells #[.string p.key, .slice p.A p.b.length p.c, .bool p.gone] 53) := ⟨_, rfl⟩
      obtain ⟨D, hD⟩ : ∃ D, D = wr.heap.size := ⟨_, rfl⟩
      have HB0 : Hid (BoxP W0 D p) := Lib.hid (by rw [hW0, hD]; exact boxP_new wr p)
      have HO0 := Lib.hid (ho.out.stay (show Kept (fun _ => False) wr W0 by rw [hW0]; exact (Kept.refl _ wr).alloc _))
      have HAt := Lib.hid (hat.kept (show Kept (fun _ => False) wr W0 by rw [hW0]; exact (Kept.refl _ wr).alloc _))
      have HF := Lib.hid (refAt_any p.key W0 Av l cv qs hl9 (by have := hql.out; omega) HAt.out)
      rw [← hj] at HF
      have d0 := HB0.out.c0
      have d1 := HB0.out.c1
      have d2 := HB0.out.c2
      have Hp := Lib.hid hp
      have Hok := Lib.hid (ok1.kept HO0.out.kept)
      have Hl9 := Lib.hid hl9
      have Hj := Lib.hid hj
      have HP2 := Lib.hid hp2
      have HA2 := Lib.hid hA2
      have HAv := Lib.hid hA
      have Hl2 := Lib.hid hl2
      have hcv2 : j ≤ cv := by omega
      subst hv
      unfold PV.val at x1 d1
      clear hp hc1 ok1 hl9 hj hat hp2 hA2 hA hl2
      go_upto_region 6 with fail
      rw [← hD, ← hW0]
      clear hD hW0 x0 x1 x2
      go_upto_region 8 with (go_at_call 46; refine HF.out.mono ?_; rintro e w2 ⟨rfl, rfl⟩)
      rcases Nat.lt_or_ge j l with hjl' | hjl'
      case' inl =>
        obtain ⟨q, hq⟩ : ∃ q, qs[j]? = some q := ⟨_, List.getElem?_eq_getElem (by have := Hl9.out; omega)⟩
        obtain ⟨ad2, rfl, hc9, -⟩ := HP2.out w2 HAt.out 0 q (by rw [List.getElem?_drop]; exact hq)
        have y0 : w2.cell? ad2 = some (.string q.key) := by have h9 := hc9.c0; rwa [show ad2.add (0 * 3) = ad2 by simp [Addr.add]] at h9
        have hlr0 : 0 < lr := by have := HLr.out; omega
        have he := str_eq q.key p.key
        obtain ⟨β, hβ⟩ : ∃ β, β = decide (q.key = p.key) := ⟨_, rfl⟩
        have HI : Hid (isP qs p.key = β) := Lib.hid (by unfold isP; rw [← Hj.out, hq, hβ])
        rw [← hβ] at he
        clear hβ hq hc9
        go_quiet (fail)
        cases β
      case' inl.false =>
        go_upto_region 10 with fail
        obtain ⟨A3, hA3⟩ : ∃ A3, A3 = some ad2 := ⟨_, rfl⟩
        obtain ⟨rs, hrs⟩ : ∃ rs, rs = qs.drop j := ⟨_, rfl⟩
        have HRs : Hid (∀ W, PsAt W Av qs → PsAt W A3 rs) := Lib.hid (by rw [hA3, hrs]; exact HP2.out)
        obtain ⟨l3, hl3⟩ : ∃ l3, l3 = lr := ⟨_, rfl⟩
        obtain ⟨c3, hc3⟩ : ∃ c3, c3 = cr := ⟨_, rfl⟩
        have HL3 : Hid (l3 = rs.length) := Lib.hid (by rw [hl3, hrs]; exact Hl2.out)
        have HA3 : Hid (A3 = none → c3 = 0) := Lib.hid (by rw [hA3]; intro e; cases e)
        have HR9 : Hid (rs = qs.drop (if isP qs p.key then j + 1 else j)) := Lib.hid (by rw [HI.out, hrs]; rfl)
        rw [← hA3, ← hl3, ← hc3]
        clear hA3 hl3 hc3 hrs y0
      case' inl.true =>
        obtain ⟨A3, hs3, hp3, hA3, hl39, hc39⟩ := from_form (some ad2) lr 1 cr (qs.drop j) Hl2.out hlr0 hc2 (fun e => by cases e)
        obtain ⟨l3, hl3⟩ : ∃ l3, l3 = lr - 1 := ⟨_, rfl⟩
        obtain ⟨c3, hc3⟩ : ∃ c3, c3 = cr - 1 := ⟨_, rfl⟩
        rw [← hl3] at hs3 hl39
        rw [← hc3] at hs3 hA3
        have hs4 := hs3
        simp only [Int.cast_ofNat_Int] at hs4
        obtain ⟨rs, hrs⟩ : ∃ rs, rs = (qs.drop j).drop 1 := ⟨_, rfl⟩
        have HRs : Hid (∀ W, PsAt W Av qs → PsAt W A3 rs) := Lib.hid (by rw [hrs]; exact fun W h => hp3 W (HP2.out W h))
        have HL3 : Hid (l3 = rs.length) := Lib.hid (by rw [hrs]; exact hl39)
        have HA3 : Hid (A3 = none → c3 = 0) := Lib.hid hA3
        have HR9 : Hid (rs = qs.drop (if isP qs p.key then j + 1 else j)) := Lib.hid (by rw [HI.out, hrs, List.drop_drop]; rfl)
        clear hl3 hc3 hp3 hA3 hl39 hrs y0
        go_upto_region 10 with fail
      case' inr =>
        obtain rfl : lr = 0 := by have := HLr.out; omega
        have hzero : ((0 : Nat) : Int) = 0 := rfl
        obtain ⟨A3, hA3⟩ : ∃ A3, A3 = A2 := ⟨_, rfl⟩
        obtain ⟨c3, hc3⟩ : ∃ c3, c3 = cr := ⟨_, rfl⟩
        obtain ⟨rs, hrs⟩ : ∃ rs, rs = qs.drop j := ⟨_, rfl⟩
        have HI : Hid (isP qs p.key = false) := Lib.hid (by unfold isP; rw [← Hj.out, List.getElem?_eq_none (by have := Hl9.out; omega)])
        have HRs : Hid (∀ W, PsAt W Av qs → PsAt W A3 rs) := Lib.hid (by rw [hA3, hrs]; exact HP2.out)
        have HL3 : Hid (0 = rs.length) := Lib.hid (by rw [hrs]; exact Hl2.out)
        have HA3 : Hid (A3 = none → c3 = 0) := Lib.hid (by rw [hA3, hc3]; exact HA2.out)
        have HR9 : Hid (rs = qs.drop (if isP qs p.key then j + 1 else j)) := Lib.hid (by rw [HI.out, hrs]; rfl)
        have HA39 := Lib.hid hA3
        have Hc39 := Lib.hid hc3
        clear hA3 hc3 hrs hzero
        go_quiet (fail)
        go_upto_region 10 with fail
        rw [← HA39.out, ← Hc39.out]
        clear HA39 Hc39
      all_goals
        obtain ⟨W3, hW3⟩ : ∃ W3, W3 = w2.drewN nq := ⟨_, rfl⟩
        rw [← hW3]
        have hK3 : Kept (fun _ => False) w2 W3 := by rw [hW3]; exact (Kept.refl _ w2).drewN _
        have HB3 := Lib.hid (HB0.out.kept hK3 (by simp))
        have HO3 := Lib.hid (HO0.out.stay hK3)
        have HAt3 := Lib.hid (HAt.out.kept hK3)
        have Hok3 := Lib.hid (Hok.out.kept hK3)
        have hs9 := fun W => slice_toP W Av l j cv hcv2
        have HB3' := Lib.hid (Bld.nil w W3)
        clear hW3 hK3 d0 d1 d2 hs2
        have e2 := HB3.out.c2
        have e1 := HB3.out.c1
        have e0 := HB3.out.c0
        unfold PV.val at e1
        obtain ⟨g, hg⟩ : ∃ g, g = p.gone := ⟨_, rfl⟩
        rw [← hg] at e2
        have Hg := Lib.hid hg
        have HJ : Hid (j = (qs.take j).length) := Lib.hid (by rw [List.length_take]; have := Hl9.out; omega)
        have HQ9 : Hid (qs.length ≤ 400000) := Lib.hid (by have := hql.out; omega)
        clear hg e0 e1 e2
        go_upto_region 11 with (at_builtin; refine wpList_append_ps rfl _ _ rfl W3.heap.size _ 0 [] rfl (World.ownsRow_nil _ _ _ _) Av j cv (cellsP (qs.take j)) rfl ((HAt3.out.take j).cs) (by rw [cellsP_len, ← HJ.out, Nat.mul_comm]) (cellsP_one _) HAv.out (by have := HQ9.out; have := Hl9.out; omega) (Nat.le_refl _) ?_; intro v4 w4 hown hgrow; have HR4 : Hid (Bld w W3 w4 v4 (qs.take j)) := Lib.hid ((Bld.nil w W3).grow (rs := qs.take j) (by rw [← HJ.out]; exact hown) hgrow (HO3.out.vals (Kept.refl _ _) mem_take)); clear hown hgrow)
        have HB4 := Lib.hid (HB3.out.kept HR4.out.kept (by simp))
        have e2 := HB4.out.c2
        rw [← Hg.out] at e2
        cases g
        · have e0 := HB4.out.c0
          have e1 := HB4.out.c1
          unfold PV.val at e1
          have HS12 : Hid (∀ W, BoxP W D p → W.cell? ⟨D, 0, none⟩ = some (.string p.key) ∧ W.cell? ⟨D, 1, none⟩ = some (.slice p.A p.b.length p.c)) := Lib.hid fun W h => ⟨h.c0, h.c1⟩
          go_upto_region 12 with fail
          go_region_held3 (fun W => W.cell? ⟨D, 0, none⟩ = some (.string p.key) ∧ W.cell? ⟨D, 1, none⟩ = some (.slice p.A p.b.length p.c)) (first | assumption | exact ⟨e0, e1⟩ | exact HS12.out _ HX5.out | exact HS12.out _ (HX5.out.kept ((Kept.refl (fun _ => False) _).alloc _) (by simp)) | exact HS12.out _ HX6.out | simp [*]) (first
            | (refine step_append_ps rfl _ _ rfl W3.heap.size _ _ _ rfl (HR5.out.stay ((Kept.refl (fun _ => False) _).alloc _)).row _ 1 1 [.string p.key, .slice A5 p.b.length c5, .bool false] rfl (cs_new _ _ _) rfl (by simp [Value.oneCell']) (fun e => by cases e) (by rw [← HJ.out]; have := HQ9.out; have := Hl9.out; omega) ((HR5.out.kept.alloc _).size) ?_; intro v6 w6 hown hgrow; have HX6 := Lib.hid (show BoxP w6 D p from (HX5.out.kept ((Kept.refl (fun _ => False) _).alloc _) (by simp)).kept (S := fun k => v4.ownBlock = some k) ((Kept.refl _ _).grown hgrow fun k e _ => e) (HNo4.out)); have HR6' := Lib.hid ((HR5.out.stay ((Kept.refl (fun _ => False) _).alloc _)).grow (rs := [⟨p.key, p.b, false, A5, c5⟩]) hown hgrow (fun r hr => by rw [List.mem_singleton.1 hr]; exact own_kept HV5.out ((Kept.refl (fun _ => False) _).alloc _) (by simp))); clear hown hgrow)
            | (go_at_call 41; refine (copy_any _ p.A p.b.length p.c p.b rfl hbl ((Hok3.out.kept HR4.out.kept).kept (Kept.refl (fun _ => False) w4).drew).1 Hok3.out.2).mono ?_; rintro e w5 hP; obtain ⟨A5, c5, rfl, ha, -, -⟩ := ClonePost.acc hP; have hk5 := (Kept.refl (fun _ => False) w4).drew.trans' ha.2; have HV5 := Lib.hid (own_low ha.1 (show w.heap.size ≤ w4.heap.size from Nat.le_trans HO3.out.kept.size HR4.out.kept.size)); have HR5 := Lib.hid (HR4.out.stay hk5); have HX5 := Lib.hid (HB4.out.kept hk5 (by simp)); have HNo4 : Hid (¬ v4.ownBlock = some D) := Lib.hid (fun e => by have := own_ge HR4.out.row D e; have := (Array.getElem?_eq_some_iff.1 (show W3.heap[D]? = _ from HB3.out)).1; omega); clear hP ha hk5))
          go_wp2_with (at_builtin; refine wpList_append_ps rfl _ _ rfl W3.heap.size _ _ _ rfl HR6'.out.row A3 _ c3 (cellsP rs) rfl ((HRs.out _ (HAt3.out.kept HR6'.out.kept)).cs) (by rw [cellsP_len, ← HL3.out, Nat.mul_comm]) (cellsP_one _) HA3.out (by have h1 : rs.length ≤ qs.length := (by rw [HR9.out, List.length_drop]; omega); have h2 := HJ.out; have h3 := HL3.out; have h4 := HQ9.out; have h5 := Hl9.out; (try simp only [List.length_append, List.length_cons, List.length_nil]); rw [← h2]; omega) HR6'.out.kept.size ?_; intro v7 w7 hown hgrow; have HR6 := Lib.hid (HR6'.out.grow (rs := rs) (by rw [← HL3.out]; exact hown) hgrow (HO3.out.vals HR6'.out.kept (by rw [HR9.out]; exact mem_drop))); clear hown hgrow)
          go_roundw
          case rel =>
            have hnew : qs.take j ++ [⟨p.key, p.b, false, A5, c5⟩] ++ rs = new1 qs p ⟨p.key, p.b, false, A5, c5⟩ := by unfold new1; rw [← Hj.out, ← HR9.out, ← Hg.out]; simp
            refine ⟨k + 1, qs.take j ++ [⟨p.key, p.b, false, A5, c5⟩] ++ rs, by omega, by go_num, Lib.hid (HR6.out.ownP HO3.out.kept), Lib.hid ?_, Lib.hid ?_⟩
            · rw [hnew, new1_core qs p _ (rfl), hcq.out, putC_snoc _ _ k p.core (by rw [List.getElem?_map, Hp.out]; rfl)]
            · rw [hnew]; have := new1_len qs p ⟨p.key, p.b, false, A5, c5⟩; have := hql.out; omega
          case measure => simp [intOf]; omega
        · (skip)
          go_wp2_with (at_builtin; refine wpList_append_ps rfl _ _ rfl W3.heap.size _ _ _ rfl HR4.out.row A3 _ c3 (cellsP rs) rfl ((HRs.out _ (HAt3.out.kept HR4.out.kept)).cs) (by rw [cellsP_len, ← HL3.out, Nat.mul_comm]) (cellsP_one _) HA3.out (by have h1 : rs.length ≤ qs.length := (by rw [HR9.out, List.length_drop]; omega); have h2 := HJ.out; have h3 := HL3.out; have h4 := HQ9.out; have h5 := Hl9.out; (try simp only [List.length_append, List.length_cons, List.length_nil]); rw [← h2]; omega) HR4.out.kept.size ?_; intro v7 w7 hown hgrow; have HR6 := Lib.hid (HR4.out.grow (rs := rs) (by rw [← HL3.out]; exact hown) hgrow (HO3.out.vals HR4.out.kept (by rw [HR9.out]; exact mem_drop))); clear hown hgrow)
          go_roundw
          case rel =>
            have hnew : qs.take j ++ rs = new1 qs p ⟨p.key, p.b, false, none, 0⟩ := by unfold new1; rw [← Hj.out, ← HR9.out, ← Hg.out]; simp
            refine ⟨k + 1, qs.take j ++ rs, by omega, by go_num, Lib.hid (HR6.out.ownP HO3.out.kept), Lib.hid ?_, Lib.hid ?_⟩
            · rw [hnew, new1_core qs p _ (rfl), hcq.out, putC_snoc _ _ k p.core (by rw [List.getElem?_map, Hp.out]; rfl)]
            · rw [hnew]; have := new1_len qs p ⟨p.key, p.b, false, none, 0⟩; have := hql.out; omega
          case measure => simp [intOf]; omega
    · obtain rfl : k = m := by omega
      go_wp2
      go_ret
      refine ⟨_, qs, rfl, ho.out, ?_⟩
      have h1 := hcq.out
      rwa [show (ms.map PV.core).take k = ms.map PV.core by rw [Hm.out, List.take_of_length_le (by simp)]] at h1
end Go.Proofs.YtcifhfdjigfeiaaGreatDoor
end
