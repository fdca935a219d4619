import Derived.Test.YtcifhfdjigfeiaaGreatDoorZa
import Derived.WalkSpells
/-! couranthelp.Pair; courantlaw23.few. -/
section
set_option linter.unusedVariables false
set_option linter.unusedSimpArgs false
namespace Go.Proofs.YtcifhfdjigfeiaaGreatDoor
open Go.RowKit

theorem PV.Ok.kept {w w' : World} {p : PV} (h : p.Ok w) (hk : Kept (fun _ => False) w w') : p.Ok w' := ⟨h.1.kept hk (by simp), h.2⟩
set_option maxRecDepth 100000 in
set_option maxHeartbeats 4000000 in
theorem pairEq_any (w : World) (p q : PV) (hp : p.Ok w) (hq : q.Ok w) :
    Calls Tryz.prog 32 #[.agg #[.string p.key, .slice p.A p.b.length p.c, .bool p.gone], .agg #[.string q.key, .slice q.A q.b.length q.c, .bool q.gone]] w fun e w' => e = .returned (.bool (decide (p.core = q.core))) ∧ Kept (fun _ => False) w w' := by
  obtain ⟨W, hW⟩ : ∃ W, W = (w.alloc (.cells #[.string p.key, .slice p.A p.b.length p.c, .bool p.gone] 53)).alloc (.cells #[.string q.key, .slice q.A q.b.length q.c, .bool q.gone] 53) := ⟨_, rfl⟩
  have hK : Kept (fun _ => False) w W := by rw [hW]; exact ((Kept.refl _ w).alloc _).alloc _
  obtain ⟨D, hD⟩ : ∃ D, D = w.heap.size := ⟨_, rfl⟩
  have hP : BoxP W D p := by rw [hW, hD]; exact (boxP_new w p).kept ((Kept.refl (fun _ => False) _).alloc _) (by simp)
  have hQ : BoxP W (D + 1) q := by
    rw [hW, hD]
    have := boxP_new (w.alloc (.cells #[.string p.key, .slice p.A p.b.length p.c, .bool p.gone] 53)) q
    rwa [show (w.alloc (.cells #[.string p.key, .slice p.A p.b.length p.c, .bool p.gone] 53)).heap.size = w.heap.size + 1 from Array.size_push _] at this
  have HB := Lib.hid (bytes_any W p.A q.A p.b.length p.c q.b.length q.c p.b q.b rfl rfl (hp.1.kept hK (by simp)) (hq.1.kept hK (by simp)))
  have HK := Lib.hid hK
  have a0 := hP.c0
  have a1 := hP.c1
  have a2 := hP.c2
  have b0 := hQ.c0
  have b1 := hQ.c1
  have b2 := hQ.c2
  obtain ⟨pk, pb, pg, pA, pc⟩ := p
  obtain ⟨qk, qb, qg, qA, qc⟩ := q
  simp only [PV.val] at a1 b1
  dsimp only at a0 a1 a2 b0 b1 b2 HB hW ⊢
  clear hp hq hP hQ hK
  have he := str_eq pk qk
  go_enter Tryz.func32, Tryz.ntmps32
  go_upto_region 1 with fail
  rw [← hD, ← hW]
  clear hD hW
  obtain ⟨b0', h0'⟩ : ∃ b0', b0' = decide (pk = qk) := ⟨_, rfl⟩
  obtain ⟨b1', h1'⟩ : ∃ b1', b1' = decide (pb = qb) := ⟨_, rfl⟩
  rw [← h0'] at he
  rw [← h1'] at HB
  have HE : Hid (decide ((pk, pb, pg) = (qk, qb, qg)) = (b0' && b1' && decide (pg = qg))) := Lib.hid (by rw [h0', h1']; simp [Bool.and_assoc])
  clear h0' h1'
  cases b0' <;> cases b1' <;> cases pg <;> cases qg
  all_goals
    go_wp2_with (go_at_call 53; refine HB.out.mono ?_; rintro e w9 ⟨rfl, rfl⟩)
    go_ret
    exact ⟨ret_bool HE.out.symm, HK.out⟩
end Go.Proofs.YtcifhfdjigfeiaaGreatDoor
end

/-! couranthelp.Same over pairs; courantlaw23.pairs. -/
section
set_option linter.unusedVariables false
set_option linter.unusedSimpArgs false
namespace Go.Proofs.YtcifhfdjigfeiaaGreatDoor
open Go.RowKit

theorem core_snoc {ps qs : List PV} {k : Nat} {p q : PV} (hp : ps[k]? = some p) (hq : qs[k]? = some q) (h : (ps.take k).map PV.core = (qs.take k).map PV.core) (he : p.core = q.core) : (ps.take (k + 1)).map PV.core = (qs.take (k + 1)).map PV.core := by
  rw [List.take_add_one, List.take_add_one, hp, hq, List.map_append, List.map_append, h]; simp [he]
theorem core_no {ps qs : List PV} {k : Nat} {p q : PV} (hp : ps[k]? = some p) (hq : qs[k]? = some q) (he : p.core ≠ q.core) : ps.map PV.core ≠ qs.map PV.core := by
  intro e
  have := congrArg (fun l => l[k]?) e
  simp only [List.getElem?_map, hp, hq, Option.map_some, Option.some.injEq] at this
  exact he this
set_option maxRecDepth 100000 in
set_option maxHeartbeats 8000000 in
theorem samePair_any (w : World) (A A' : Option Addr) (n m c c' : Nat) (ps qs : List PV) (hn : n = ps.length) (hm : m = qs.length) (hn9 : n ≤ 1000000000) (h : PsAt w A ps) (h' : PsAt w A' qs) :
    Calls Tryz.prog 31 #[.slice A n c, .slice A' m c', .func (.func 32) #[] #[]] w fun e w' => e = .returned (.bool (decide (ps.map PV.core = qs.map PV.core))) ∧ Kept (fun _ => False) w w' := by
  have H := Lib.hid h
  have H' := Lib.hid h'
  have Hn := Lib.hid hn
  have Hm := Lib.hid hm
  obtain ⟨r, hr⟩ : ∃ r, r = decide (ps.map PV.core = qs.map PV.core) := ⟨_, rfl⟩
  rw [← hr]
  have Hr := Lib.hid hr
  clear h h' hn hm hr
  by_cases hnm : n = m
  · subst hnm
    have hn8 : (n : Int) ≤ 1000000000 := by omega
    go_enter Tryz.func31, Tryz.ntmps31
    go_wp2_with fail
    go_loopw [7] (fun i wr => ∃ k : Nat, k ≤ n ∧ i = .int .i64 k ∧ Hid ((ps.take k).map PV.core = (qs.take k).map PV.core) ∧ Hid (Kept (fun _ => False) w wr)) (fun i _ => n - (intOf i).toNat)
    case atStart => exact ⟨0, by omega, rfl, Lib.hid rfl, Lib.hid (Kept.refl _ _)⟩
    case round =>
      obtain ⟨k, hk, rfl, he, hK⟩ := hrel
      by_cases hlt : k < n
      · have hk9 : (k : Int) < (n : Int) := by omega
        obtain ⟨p, hp⟩ : ∃ p, ps[k]? = some p := ⟨_, List.getElem?_eq_getElem (by have := Hn.out; omega)⟩
        obtain ⟨q, hq⟩ : ∃ q, qs[k]? = some q := ⟨_, List.getElem?_eq_getElem (by have := Hm.out; omega)⟩
        obtain ⟨a1, rfl, hc1, ok1⟩ := H.out k p hp
        obtain ⟨a2, rfl, hc2, ok2⟩ := H'.out k q hq
        have x0 := hK.out.cell hc1.c0 (by simp)
        have x1 := hK.out.cell hc1.c1 (by simp)
        have x2 := hK.out.cell hc1.c2 (by simp)
        have y0 := hK.out.cell hc2.c0 (by simp)
        have y1 := hK.out.cell hc2.c1 (by simp)
        have y2 := hK.out.cell hc2.c2 (by simp)
        have Hp := Lib.hid hp
        have Hq := Lib.hid hq
        have HP := Lib.hid (pairEq_any wr.drew p q (ok1.kept hK.out.drew) (ok2.kept hK.out.drew))
        obtain ⟨b, hb⟩ : ∃ b, b = decide (p.core = q.core) := ⟨_, rfl⟩
        rw [← hb] at HP
        have Hb := Lib.hid hb
        unfold PV.val at x1 y1
        clear hp hq hc1 hc2 ok1 ok2 hb
        go_upto_region 6 with fail
        go_region_held3 (fun W => W.cell? (a1.add (k * 3)) = some (.string p.key) ∧ W.cell? ⟨(a1.add (k * 3)).block, (a1.add (k * 3)).off + 1, none⟩ = some (.slice p.A p.b.length p.c) ∧ W.cell? ⟨(a1.add (k * 3)).block, (a1.add (k * 3)).off + 2, none⟩ = some (.bool p.gone) ∧ W.cell? (a2.add (k * 3)) = some (.string q.key) ∧ W.cell? ⟨(a2.add (k * 3)).block, (a2.add (k * 3)).off + 1, none⟩ = some (.slice q.A q.b.length q.c) ∧ W.cell? ⟨(a2.add (k * 3)).block, (a2.add (k * 3)).off + 2, none⟩ = some (.bool q.gone)) (first | assumption | exact ⟨x0, x1, x2, y0, y1, y2⟩ | exact ⟨HC9.out _ _ x0, HC9.out _ _ x1, HC9.out _ _ x2, HC9.out _ _ y0, HC9.out _ _ y1, HC9.out _ _ y2⟩ | simp [*]) (first
          | (go_at_call 32; refine HP.out.mono ?_; rintro e w9 ⟨rfl, hk9'⟩; have HK9 := Lib.hid hk9'; have HC9 : Hid (∀ (ad : Addr) (v : Value), wr.cell? ad = some v → w9.cell? ad = some v) := Lib.hid fun ad v hc => hk9'.cell (by simpa using hc) (by simp); clear hk9'))
        cases b
        · go_wp2
          go_ret
          have hne : p.core ≠ q.core := by have := Hb.out; simpa using this.symm
          exact ⟨ret_bool (by rw [Hr.out]; simpa using core_no Hp.out Hq.out hne), hK.out.drew.trans' HK9.out⟩
        · go_wp2
          go_roundw
          case rel => exact ⟨k + 1, by omega, by go_num, Lib.hid (core_snoc Hp.out Hq.out he.out (by have := Hb.out; simpa using this.symm)), Lib.hid (hK.out.drew.trans' HK9.out)⟩
          case measure => simp [intOf]; omega
      · obtain rfl : k = n := by omega
        have HE : Hid (r = true) := Lib.hid (by
          rw [Hr.out, decide_eq_true_eq]
          have h1 := he.out
          have h2 : ps.take k = ps := by rw [Hn.out, List.take_length]
          have h3 : qs.take k = qs := by rw [Hm.out, List.take_length]
          rwa [h2, h3] at h1)
        go_wp2
        go_ret
        exact ⟨ret_bool HE.out.symm, hK.out⟩
  · have HE : Hid (r = false) := Lib.hid (by
      rw [Hr.out, decide_eq_false_iff_not]
      intro e
      have := congrArg List.length e
      simp only [List.length_map] at this
      exact hnm (by rw [Hn.out, Hm.out, this]))
    have hnm' : ¬ (n : Int) = (m : Int) := by omega
    go_enter Tryz.func31, Tryz.ntmps31
    go_wp2
    go_ret
    exact ⟨ret_bool HE.out.symm, Kept.refl _ _⟩
set_option maxRecDepth 100000 in
set_option maxHeartbeats 4000000 in
theorem pairs_any (w : World) (A A' : Option Addr) (n m c c' : Nat) (ps qs : List PV) (hn : n = ps.length) (hm : m = qs.length) (hn9 : n ≤ 1000000000) (h : PsAt w A ps) (h' : PsAt w A' qs) :
    Calls Tryz.prog 11 #[.slice A n c, .slice A' m c'] w fun e w' => e = .returned (.bool (decide (ps.map PV.core = qs.map PV.core))) ∧ Kept (fun _ => False) w w' := by
  have H := Lib.hid (samePair_any w A A' n m c c' ps qs hn hm hn9 h h')
  obtain ⟨r, hr⟩ : ∃ r, r = decide (ps.map PV.core = qs.map PV.core) := ⟨_, rfl⟩
  rw [← hr] at H ⊢
  clear h h' hn hm hr
  go_enter Tryz.func11, Tryz.ntmps11
  go_wp2_with (go_at_call 31; refine H.out.mono ?_; rintro e w9 ⟨rfl, hk⟩; have HK := Lib.hid hk; clear hk)
  go_ret
  exact ⟨rfl, HK.out⟩
end Go.Proofs.YtcifhfdjigfeiaaGreatDoor
end

/-! courantlaw23.few; slices.Clone over pairs; couranthelp.CopyPairs. -/
section
set_option linter.unusedVariables false
set_option linter.unusedSimpArgs false
namespace Go.Proofs.YtcifhfdjigfeiaaGreatDoor
open Go.RowKit

def PV.Sz (p : PV) : Prop := p.key.size ≤ 140737488355328 ∧ p.b.length ≤ 140737488355328
def wt (p : PV) : Nat := p.key.size + p.b.length + 10
def fewN (ps : List PV) : Nat := ((ps.take 50).map wt).sum
def fewP (ps : List PV) : Bool := decide (ps.length < 50) && decide (fewN ps < 3000)
theorem few_snoc (ps : List PV) (k : Nat) (p : PV) (h : ps[k]? = some p) : ((ps.take (k + 1)).map wt).sum = ((ps.take k).map wt).sum + wt p := by
  rw [List.take_add_one, h]; simp
theorem drewN2 (w : World) (a b : Nat) : (w.drewN a).drewN b = w.drewN (a + b) := by simp [World.drewN, Nat.add_assoc]
set_option maxRecDepth 100000 in
set_option maxHeartbeats 4000000 in
theorem few_any (w : World) (A : Option Addr) (n c : Nat) (ps : List PV) (hn : n = ps.length) (hn9 : n ≤ 140737488355328) (h : PsAt w A ps) (hz : ∀ p ∈ ps, p.Sz) :
    Calls Tryz.prog 19 #[.slice A n c] w fun e w' => e = .returned (.bool (fewP ps)) ∧ ∃ m, w' = w.drewN m := by
  have H := Lib.hid h
  have Hn := Lib.hid hn
  have Hz := Lib.hid hz
  have hn8 : (n : Int) ≤ 140737488355328 := by omega
  clear h hn hz
  go_enter Tryz.func19, Tryz.ntmps19
  go_wp2_with fail
  go_loopw [3, 4] (fun s i wr => ∃ k u q : Nat, k ≤ n ∧ k ≤ 50 ∧ i = .int .i64 k ∧ s = .int .i64 u ∧ wr = w.drewN q ∧ Hid (u = ((ps.take k).map wt).sum) ∧ u ≤ k * 300000000000000) (fun _ i _ => n - (intOf i).toNat)
  case atStart => exact ⟨0, 0, 0, by omega, by omega, rfl, rfl, rfl, Lib.hid (by simp), by omega⟩
  case round =>
    obtain ⟨k, u, q, hk, hk5, rfl, rfl, rfl, hu, hu9⟩ := hrel
    have hub : (u : Int) ≤ 15000000000000000 := by omega
    by_cases hlt : k < n
    · have hk9 : (k : Int) < (n : Int) := by omega
      by_cases hlt5 : k < 50
      · have hk7 : (k : Int) < 50 := by omega
        obtain ⟨p, hp⟩ : ∃ p, ps[k]? = some p := ⟨_, List.getElem?_eq_getElem (by have := Hn.out; omega)⟩
        obtain ⟨a1, rfl, hc1, -⟩ := H.out k p hp
        have hsz := Hz.out p (List.mem_of_getElem? hp)
        have hz1 : (p.key.size : Int) ≤ 140737488355328 := by have := hsz.1; omega
        have hz2 : (p.b.length : Int) ≤ 140737488355328 := by have := hsz.2; omega
        obtain ⟨wq, hwq⟩ : ∃ wq, wq = w.drewN q := ⟨_, rfl⟩
        have hK : Kept (fun _ => False) w wq := by rw [hwq]; exact (Kept.refl _ w).drewN q
        have x0 := hK.cell hc1.c0 (by simp)
        have x1 := hK.cell hc1.c1 (by simp)
        have Hs := Lib.hid (few_snoc ps k p hp)
        have Hwt := Lib.hid (show wt p = p.key.size + p.b.length + 10 from rfl)
        unfold PV.val at x1
        rw [← hwq]
        have Hwq := Lib.hid hwq
        clear hp hc1 hsz hwq hK
        go_upto_region 5 with fail
        go_quiet (fail)
        go_wp2
        go_roundw
        case rel =>
          exact ⟨k + 1, u + p.key.size + p.b.length + 10, q + nq, by omega, by omega, by go_num, by go_num, by rw [Hwq.out, drewN2], Lib.hid (by rw [Hs.out, hu.out, Hwt.out]; omega), by omega⟩
        case measure => simp [intOf]; omega
      · obtain rfl : k = 50 := by omega
        have hn50 : ¬ (n : Int) < 50 := by omega
        have HE : Hid (false = fewP ps) := Lib.hid (by have := Hn.out; unfold fewP; simp; omega)
        go_wp2
        go_ret
        exact ⟨ret_bool HE.out, q, rfl⟩
    · obtain rfl : k = n := by omega
      by_cases hk50 : k < 50
      · have hn50 : (k : Int) < 50 := by omega
        have hE : u = fewN ps := by
          have h1 := hu.out
          have h2 : ps.take k = ps := by rw [Hn.out, List.take_length]
          have h3 : ps.take 50 = ps := List.take_of_length_le (by have := Hn.out; omega)
          rw [h2] at h1
          rw [h1, fewN, h3]
        by_cases h3 : u < 3000
        · have h3' : (u : Int) < 3000 := by omega
          have HE : Hid (true = fewP ps) := Lib.hid (by have := Hn.out; unfold fewP; rw [← hE]; simp; omega)
          clear hE
          go_wp2
          go_ret
          exact ⟨ret_bool HE.out, q, rfl⟩
        · have h3' : ¬ (u : Int) < 3000 := by omega
          have HE : Hid (false = fewP ps) := Lib.hid (by have := Hn.out; unfold fewP; rw [← hE]; simp; omega)
          clear hE
          go_wp2
          go_ret
          exact ⟨ret_bool HE.out, q, rfl⟩
      · have hn50 : ¬ (k : Int) < 50 := by omega
        have HE : Hid (false = fewP ps) := Lib.hid (by have := Hn.out; unfold fewP; simp; omega)
        go_wp2
        go_ret
        exact ⟨ret_bool HE.out, q, rfl⟩
end Go.Proofs.YtcifhfdjigfeiaaGreatDoor
end

/-! Rows of pairs of a call's own. -/
section
set_option linter.unusedVariables false
set_option linter.unusedSimpArgs false
namespace Go.Proofs.YtcifhfdjigfeiaaGreatDoor
open Go.RowKit

theorem cellsP_len (rs : List PV) : (cellsP rs).length = 3 * rs.length := by
  induction rs with
  | nil => rfl
  | cons r rs ih =>
    have : (cellsP (r :: rs)).length = 3 + (cellsP rs).length := by simp [cellsP, PV.cells]; omega
    rw [this, ih, List.length_cons]; omega
theorem cellsP_append (a b : List PV) : cellsP (a ++ b) = cellsP a ++ cellsP b := by simp [cellsP]
theorem cellsP_one (rs : List PV) : ∀ u ∈ cellsP rs, u.oneCell' = true := by
  intro u hu
  simp only [cellsP, List.mem_flatMap] at hu
  obtain ⟨r, hr, hu⟩ := hu
  simp only [PV.cells, List.mem_cons, List.not_mem_nil, or_false] at hu
  rcases hu with rfl | rfl | rfl <;> rfl
theorem cellsP_at (rs : List PV) (k : Nat) (r : PV) (h : rs[k]? = some r) (i : Nat) (hi : i < 3) : (cellsP rs)[3 * k + i]? = r.cells[i]? := by
  induction rs generalizing k with
  | nil => simp at h
  | cons q rs ih =>
    have e : cellsP (q :: rs) = q.cells ++ cellsP rs := rfl
    have hq : q.cells.length = 3 := rfl
    cases k with
    | zero =>
      simp at h; subst h
      rw [e, List.getElem?_append_left (by rw [hq]; omega)]; congr 1; omega
    | succ k =>
      simp at h
      rw [e, List.getElem?_append_right (by rw [hq]; omega), hq, show 3 * (k + 1) + i - 3 = 3 * k + i by omega]
      exact ih k h
/-- The other way: which pair a cell is of. -/
theorem cellsP_of (rs : List PV) (j : Nat) (u : Value) (h : (cellsP rs)[j]? = some u) : ∃ k i r, j = 3 * k + i ∧ i < 3 ∧ rs[k]? = some r ∧ r.cells[i]? = some u := by
  have hj := (List.getElem?_eq_some_iff.1 h).1
  rw [cellsP_len] at hj
  obtain ⟨r, hr⟩ : ∃ r, rs[j / 3]? = some r := ⟨_, List.getElem?_eq_getElem (by omega)⟩
  refine ⟨j / 3, j % 3, r, by omega, by omega, hr, ?_⟩
  rw [← cellsP_at rs (j / 3) r hr (j % 3) (by omega), show 3 * (j / 3) + j % 3 = j by omega, h]
theorem PsAt.cs {w : World} {A : Option Addr} {ps : List PV} (h : PsAt w A ps) : Cs w A (cellsP ps) := by
  refine ⟨fun e => ?_, fun ad e j u hu => ?_⟩
  · cases ps with
    | nil => rfl
    | cons p ps => obtain ⟨ad, h1, _⟩ := h 0 p rfl; rw [e] at h1; cases h1
  · obtain ⟨k, i, r, rfl, hi, hr, hc⟩ := cellsP_of ps j u hu
    obtain ⟨ad', h1, h2, _⟩ := h k r hr
    rw [e] at h1; injection h1 with h1; subst h1
    have hadd : ∀ i, ad.add (3 * k + i) = (if i = 0 then ad.add (k * 3) else ⟨(ad.add (k * 3)).block, (ad.add (k * 3)).off + i, none⟩) := by
      intro i
      by_cases h0 : i = 0
      · subst h0; rw [if_pos rfl, Nat.add_zero, Nat.mul_comm]
      · have h1 : (ad.add (k * 3)).block = ad.block := add_block ad _
        have h2 : (ad.add (k * 3)).off = ad.off + k * 3 := by
          unfold Addr.add; split
          · omega
          · rfl
        rw [if_neg h0, h1, h2]
        unfold Addr.add
        rw [if_neg (by omega), show ad.off + (3 * k + i) = ad.off + k * 3 + i by omega]
    have i3 : i = 0 ∨ i = 1 ∨ i = 2 := by omega
    rcases i3 with rfl | rfl | rfl
    · have hu' : u = .string r.key := by simpa [PV.cells] using hc.symm
      rw [hadd, hu']; simpa using h2.c0
    · have hu' : u = r.val := by simpa [PV.cells] using hc.symm
      rw [hadd, hu']; simpa using h2.c1
    · have hu' : u = .bool r.gone := by simpa [PV.cells] using hc.symm
      rw [hadd, hu']; simpa using h2.c2
/-- A row of pairs, as a slice that can be read. -/
theorem row_form {w : World} {base : Nat} {v : Value} {ps : List PV} (h : w.ownsRow base 53 3 v ps.length (cellsP ps)) (ho : ∀ p ∈ ps, p.Ok w) :
    ∃ A c, v = .slice A ps.length c ∧ (A = none → c = 0) ∧ ps.length ≤ c ∧ c ≤ 9223372036854775807 ∧ PsAt w A ps ∧ ∀ ad, A = some ad → ∃ G, ad = ⟨G, 0, none⟩ ∧ v.ownBlock = some G ∧ base ≤ G ∧ ∃ cur : Array Value, w.heap[G]? = some (.cells cur 53 (0, 0)) ∧ cur.size = c * 3 ∧ cur.toList.take (3 * ps.length) = cellsP ps := by
  rcases h.2 with ⟨hv, h0⟩ | ⟨g, cap, cur, hv, hb, hh, hsz, hc, h63, ht⟩
  · have hps : ps = [] := List.eq_nil_of_length_eq_zero h0
    subst hps
    exact ⟨none, 0, hv, fun _ => rfl, Nat.le_refl _, by omega, fun j p hp => by simp at hp, fun ad e => by cases e⟩
  · refine ⟨some ⟨g, 0, none⟩, cap, hv, (fun e => by cases e), by omega, by have h62 : maxLen = 9223372036854775807 := rfl; omega, ?_, ?_⟩
    · intro k r hr
      have key : ∀ i u, i < 3 → r.cells[i]? = some u → w.cell? ⟨g, k * 3 + i, none⟩ = some u := by
        intro i u hi hu
        have := h.cells (g := g) (by rw [hv]; rfl) (3 * k + i) u (by rw [cellsP_at ps k r hr i hi]; exact hu)
        have e1 : (⟨g, 0, none⟩ : Addr).add (3 * k + i) = ⟨g, k * 3 + i, none⟩ := by unfold Addr.add; split <;> simp_all <;> omega
        rwa [e1] at this
      have e2 : (⟨g, 0, none⟩ : Addr).add (k * 3) = ⟨g, k * 3, none⟩ := by unfold Addr.add; split <;> simp_all
      refine ⟨_, rfl, ?_, ho r (List.mem_of_getElem? hr)⟩
      rw [e2]
      exact ⟨key 0 _ (by omega) rfl, key 1 _ (by omega) rfl, key 2 _ (by omega) rfl⟩
    · rintro ad e
      injection e with e
      subst e
      exact ⟨g, rfl, by rw [hv]; rfl, hb, cur, hh, by omega, by rw [Nat.mul_comm]; exact ht⟩
theorem own_apart {W : World} {b1 b2 s1 s2 n m : Nat} {v u : Value} {xs ys : List Value} (h1 : W.ownsRow b1 53 s1 v n xs) (h2 : W.ownsRow b2 5 s2 u m ys) : ∀ k, u.ownBlock = some k → v.ownBlock ≠ some k := by
  intro k e e2
  rcases h1.2 with ⟨hv, _⟩ | ⟨g, _, _, hv, _, hh, _⟩
  · rw [hv] at e2; cases e2
  · rcases h2.2 with ⟨hu, _⟩ | ⟨g', _, _, hu, _, hh', _⟩
    · rw [hu] at e; cases e
    · have hg : g = k := by rw [hv] at e2; simpa [Value.ownBlock] using e2
      have hg' : g' = k := by rw [hu] at e; simpa [Value.ownBlock] using e
      subst hg; subst hg'
      rw [hh] at hh'
      simp at hh'
theorem PV.ok_own {W : World} {base : Nat} {p : PV} (h : W.ownsRow base 5 1 p.val p.b.length (p.b.map bv)) : p.Ok W := by
  obtain ⟨A, c, hv, -, hb, hA, -⟩ := Bs.of_own h
  simp only [PV.val, Value.slice.injEq] at hv
  obtain ⟨rfl, -, rfl⟩ := hv
  exact ⟨hb, hA⟩
/-- A row of pairs of the call's own, with bytes of its own. -/
structure OwnP (w W : World) (v : Value) (qs : List PV) : Prop where
  row : W.ownsRow w.heap.size 53 3 v qs.length (cellsP qs)
  own : ∀ q ∈ qs, W.ownsRow w.heap.size 5 1 q.val q.b.length (q.b.map bv)
  kept : Kept (fun _ => False) w W
section
variable {w W W' : World} {v v' : Value} {qs : List PV}
theorem OwnP.nil (w : World) : OwnP w w (.slice none 0 0) [] := ⟨World.ownsRow_nil _ _ _ _, fun q h => by simp at h, Kept.refl _ _⟩
theorem OwnP.stay (h : OwnP w W v qs) (hk : Kept (fun _ => False) W W') : OwnP w W' v qs := ⟨own_kept h.row hk (by simp), fun q hq => own_kept (h.own q hq) hk (by simp), h.kept.trans' hk⟩
theorem OwnP.ok (h : OwnP w W v qs) : ∀ q ∈ qs, q.Ok W := fun q hq => PV.ok_own (h.own q hq)
theorem OwnP.at_ (h : OwnP w W v qs) : ∃ A c, v = .slice A qs.length c ∧ (A = none → c = 0) ∧ qs.length ≤ c ∧ PsAt W A qs := by
  obtain ⟨A, c, h1, h2, h3, -, h4, -⟩ := row_form h.row h.ok
  exact ⟨A, c, h1, h2, h3, h4⟩
theorem OwnP.grow {rs : List PV} (h : OwnP w W v qs) (ho : W'.ownsRow w.heap.size 53 3 v' (qs.length + rs.length) (cellsP qs ++ cellsP rs)) (hg : W.grownBy W' v.ownBlock) (hr : ∀ r ∈ rs, W.ownsRow w.heap.size 5 1 r.val r.b.length (r.b.map bv)) : OwnP w W' v' (qs ++ rs) := by
  have hK : Kept (fun k => v.ownBlock = some k) W W' := (Kept.refl _ W).grown hg fun k e _ => e
  refine ⟨by rw [List.length_append, cellsP_append]; exact ho, fun q hq => ?_, h.kept.grown hg fun k e hk => by have := own_ge h.row k e; omega⟩
  rcases List.mem_append.1 hq with hq | hq
  · exact own_kept (h.own q hq) hK fun k e => own_apart h.row (h.own q hq) k e
  · exact own_kept (hr q hq) hK fun k e => own_apart h.row (hr q hq) k e
end
end Go.Proofs.YtcifhfdjigfeiaaGreatDoor
end
