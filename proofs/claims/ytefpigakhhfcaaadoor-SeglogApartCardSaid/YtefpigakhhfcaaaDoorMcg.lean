import Derived.Test.YtefpigakhhfcaaaDoorMcb
import Derived.WalkKit
import Derived.ProofKit
import Derived.OpenShut
import Derived.Below
import Derived.ChangeMaps5
import Derived.ShutString
import Derived.Deep.Slices
import Derived.SizedLaws
import Derived.Deep.DeepHandedRow
import Derived.Deep.DeepLaidRun
/-! couranthelp.Stops over what From hands back: the iterator is called with a plain function. -/
section
set_option linter.unusedVariables false
set_option linter.unusedSimpArgs false
namespace Go.Proofs.YtefpigakhhfcaaaDoor
open Go.RowKit

set_option maxHeartbeats 1000000 in
theorem stopsB1_any (w : World) (Bt Bn t n : Nat) (x : Int) (v : Value) (r : Bool) (h1 : Boxed w Bt 3 (.int .i64 (t : Nat))) (h2 : Boxed w Bn 3 (.int .i64 (n : Nat))) (hne : Bn ≠ Bt) (ht : t ≤ 1000000) (hr : decide ((t : Int) + 1 < (n : Int)) = r) :
    Calls Tryd.prog 38 #[.int .u64 x, v, .pointer (some ⟨Bt, 0, none⟩), .pointer (some ⟨Bn, 0, none⟩)] w fun e w' => e = .returned (.bool r) ∧ Boxed w' Bt 3 (.int .i64 ((t + 1 : Nat) : Int)) ∧ Kept (fun k => k = Bt) w w' := by
  have c1 := h1.cell
  have f1 := h1.frozen
  have c2 := h2.cell
  have hk : Kept (fun k => k = Bt) w (w.setCell ⟨Bt, 0, none⟩ (.int .i64 ((t : Int) + 1))) := kF w Bt 0 _
  have hb : Boxed (w.setCell ⟨Bt, 0, none⟩ (.int .i64 ((t : Int) + 1))) Bt 3 (.int .i64 ((t : Int) + 1)) := h1.set _
  have d2 := hk.cell c2 (by simpa using hne)
  have d1 := hb.cell
  have HK := Lib.hid hk
  have HB := Lib.hid hb
  have Hr := Lib.hid hr
  clear hk hb h1 h2 hr
  go_enter Tryd.func38, Tryd.ntmps38
  go_wp2
  go_ret
  exact ⟨by rw [← Hr.out]; rfl, HB.out, HK.out⟩
set_option maxRecDepth 100000 in
set_option maxHeartbeats 8000000 in
theorem slFrom1_stops (w : World) (Bp Bo off Bt Bn n : Nat) (v : Value) (ms : List PM) (h : FromAt w Bp Bo off v ms) (hl : ms.length ≤ 900000) (hr : ∀ p ∈ ms, p.rs.length ≤ 1000000 ∧ p.first ≤ 1000000000 ∧ ∀ r ∈ p.rs, r.b.length ≤ 1000000)
    (h1 : Boxed w Bt 3 (.int .i64 0)) (h2 : Boxed w Bn 3 (.int .i64 (n : Nat))) (hn1 : 1 ≤ n) (hn9 : n ≤ 1000000) (hne : Bn ≠ Bt) (hrd : ¬ rdM Bp Bo v ms Bt) :
    Calls Tryd.prog 37 #[.func (.func 38) #[] #[.pointer (some ⟨Bt, 0, none⟩), .pointer (some ⟨Bn, 0, none⟩)], .pointer (some ⟨Bp, 0, none⟩), .pointer (some ⟨Bo, 0, none⟩)] w
      fun e w' => e = .returned (.tuple #[]) ∧ Boxed w' Bt 3 (.int .i64 ((min n (recsFr off (ms.map PM.prt)).length : Nat) : Int)) ∧ Kept (fun k => k = Bt) w w' := by
  obtain ⟨A, c, rfl⟩ := own_slice h.row
  have hcp := h.bp.cell
  obtain ⟨m, hm⟩ : ∃ m, m = ms.length := ⟨_, rfl⟩
  obtain ⟨V, hV⟩ : ∃ V, V = Value.slice A m c := ⟨_, rfl⟩
  rw [← hm] at hcp h hl hrd
  rw [← hV] at h hrd
  obtain ⟨tot, htot⟩ : ∃ tot, tot = (recsFr off (ms.map PM.prt)).length := ⟨_, rfl⟩
  rw [← htot]
  have Hm := Lib.hid hm
  have HV := Lib.hid hV
  have HR := Lib.hid hr
  have HF := Lib.hid h
  have H1 := Lib.hid h1
  have H2 := Lib.hid h2
  have Hrd := Lib.hid hrd
  have Htot := Lib.hid htot
  have Hne := Lib.hid hne
  clear h hr hm hV h1 h2 hrd htot hne
  go_enter Tryd.func37, Tryd.ntmps37
  go_wp2_with fail
  go_loopw [11] (fun i wr => ∃ j : Nat, i = .int .i64 (j : Nat) ∧ j ≤ m ∧ Hid (∃ t, t = (recsFr off ((ms.take j).map PM.prt)).length ∧ t < n ∧ Boxed wr Bt 3 (.int .i64 (t : Nat))) ∧ Hid (Kept (fun k => k = Bt) w wr)) (fun i _ => m - (intOf i).toNat)
  case atStart => exact ⟨0, rfl, by omega, Lib.hid ⟨0, by simp [recsFr], by omega, H1.out⟩, Lib.hid (Kept.refl _ _)⟩
  case round =>
    obtain ⟨j, rfl, hj, hT, hK⟩ := hrel
    by_cases hlt : j < m
    · have hlt' : (j : Int) < (m : Int) := by omega
      have hF1 := Lib.hid (HF.out.same (w' := wr) fun k hk => hK.out.block k (HF.out.lt k hk) fun e => Hrd.out (e ▸ hk))
      obtain ⟨p, hp⟩ : ∃ p, ms[j]? = some p := ⟨_, List.getElem?_eq_getElem (by have := Hm.out; omega)⟩
      obtain ⟨G, c', hvf, -, hcn, -, -, hcell⟩ := hF1.out.row.form (fun e => by have := Hm.out; rw [e] at this; simp at this; omega)
      rw [HV.out] at hvf
      simp only [Value.slice.injEq] at hvf
      obtain ⟨rfl, -, rfl⟩ := hvf
      obtain ⟨x0, x1, x2⟩ := hcell j p hp
      unfold PM.rv at x1
      obtain ⟨lr, hlr⟩ : ∃ lr, lr = p.rs.length := ⟨_, rfl⟩
      rw [← hlr] at x1
      obtain ⟨f, hf⟩ : ∃ f, f = p.first := ⟨_, rfl⟩
      rw [← hf] at x0
      obtain ⟨sz, hsz⟩ : ∃ sz, sz = szP p.prt := ⟨_, rfl⟩
      rw [← hsz] at x2
      obtain ⟨pA, hpA⟩ : ∃ pA, pA = p.A := ⟨_, rfl⟩
      rw [← hpA] at x1
      have HpA := Lib.hid hpA
      clear hpA
      have Hp := Lib.hid hp
      have Hlr := Lib.hid hlr
      have Hf := Lib.hid hf
      clear hcell hp hlr hf hsz hcn
      go_wp2_with fail
      obtain ⟨B2, hB2⟩ : ∃ B2, B2 = wr.heap.size := ⟨_, rfl⟩
      obtain ⟨V2, hV2⟩ : ∃ V2, V2 = wr.alloc (.cells #[.int .u64 (f : Nat), .slice pA lr p.c, .int .i64 (sz : Nat)] 71) := ⟨_, rfl⟩
      have hkv : Kept (fun _ => False) wr V2 := by rw [hV2]; exact (Kept.refl _ wr).alloc _
      have HB : Hid (V2.heap[B2]? = some (.cells #[.int .u64 (f : Nat), .slice pA lr p.c, .int .i64 (sz : Nat)] 71 (0, 0))) := Lib.hid (by rw [hV2, hB2]; exact heap_alloc_new wr _)
      have HBt : Hid (B2 ≠ Bt) := Lib.hid (by
        obtain ⟨t, -, -, h9⟩ := hT.out
        have := (Array.getElem?_eq_some_iff.1 h9).1
        omega)
      have HT2 : Hid (∃ t, t = (recsFr off ((ms.take j).map PM.prt)).length + (recsL off f ((p.rs.take 0).map BV.b)).length ∧ t < n ∧ Boxed V2 Bt 3 (.int .i64 (t : Nat))) := Lib.hid (by
        obtain ⟨t, h8, h9, h10⟩ := hT.out
        exact ⟨t, by rw [h8]; simp [recsL], h9, hkv.heap h10 (by simp)⟩)
      have HK2 : Hid (Kept (fun k => k = Bt) w V2) := Lib.hid (hK.out.trans' (hkv.mono fun _ _ e => e.elim))
      rw [← hB2, ← hV2]
      have hlr9 : lr ≤ 1000000 := by have := (HR.out p (List.mem_of_getElem? Hp.out)).1; have := Hlr.out; omega
      have hf9 : f ≤ 1000000000 := by have := (HR.out p (List.mem_of_getElem? Hp.out)).2.1; have := Hf.out; omega
      clear hB2 hV2 hkv x0 x1 x2 hT hF1 hcp hK
      go_loopw [18] (fun i w2 => ∃ k : Nat, i = .int .i64 (k : Nat) ∧ k ≤ lr ∧ Hid (∃ t, t = (recsFr off ((ms.take j).map PM.prt)).length + (recsL off f ((p.rs.take k).map BV.b)).length ∧ t < n ∧ Boxed w2 Bt 3 (.int .i64 (t : Nat))) ∧ Hid (Kept (fun k => k = Bt) w w2) ∧ Hid (w2.heap[B2]? = some (.cells #[.int .u64 (f : Nat), .slice pA lr p.c, .int .i64 (sz : Nat)] 71 (0, 0)))) (fun i _ => lr - (intOf i).toNat)
      case' atStart => exact ⟨0, rfl, by omega, HT2, HK2, HB⟩
      clear HT2 HK2 HB
      obtain ⟨k, rfl, hk, hT, hK, hB1⟩ := hrel
      by_cases hkl : k < lr
      · have hkl' : (k : Int) < (lr : Int) := by omega
        have hF1 := HF.out.same (w' := wr) fun k hk => hK.out.block k (HF.out.lt k hk) fun e => Hrd.out (e ▸ hk)
        obtain ⟨r, hr⟩ : ∃ r, p.rs[k]? = some r := ⟨_, List.getElem?_eq_getElem (by have := Hlr.out; omega)⟩
        obtain ⟨ad, had, y0, hbs, hrn⟩ := hF1.rs p (List.mem_of_getElem? Hp.out) k r hr
        have z0 : wr.cell? ⟨B2, 0, none⟩ = some (.int .u64 (f : Nat)) := by simp [World.cell?, hB1.out]
        have zo := hF1.bo.cell
        obtain ⟨y, hy⟩ : ∃ y, y = f + k := ⟨_, rfl⟩
        have h5 : IntKind.u64.wrap ((k : Nat) : Int) = (k : Int) := by rw [IntKind.wrap_u64]; omega
        have h6 : IntKind.u64.wrap ((f : Int) + (k : Int)) = ((y : Nat) : Int) := by rw [IntKind.wrap_u64]; omega
        have hb9 : r.b.length ≤ 1000000 := (HR.out p (List.mem_of_getElem? Hp.out)).2.2 r (List.mem_of_getElem? hr)
        have Hstep : Hid ((recsL off f ((p.rs.take (k + 1)).map BV.b)).length = (recsL off f ((p.rs.take k).map BV.b)).length + if off ≤ y then 1 else 0) := Lib.hid (by
          have e5 : (p.rs.take k).length = k := by rw [List.length_take]; have := Hlr.out; omega
          rw [List.take_add_one, hr, Option.toList_some, List.map_append, recsL_app, List.length_map, e5, ← hy, List.map_singleton, recsL_one, List.length_append]
          split <;> rfl)
        have Hlen : Hid ((recsFr off ((ms.take j).map PM.prt)).length + (recsL off f ((p.rs.take (k + 1)).map BV.b)).length ≤ tot) := Lib.hid (by
          have hjm := (List.getElem?_eq_some_iff.1 Hp.out)
          have e1 : ms = ms.take j ++ p :: ms.drop (j + 1) := by rw [← hjm.2, ← List.drop_eq_getElem_cons hjm.1, List.take_append_drop]
          have e2 : p.rs = p.rs.take (k + 1) ++ p.rs.drop (k + 1) := (List.take_append_drop _ _).symm
          have e3 : (recsFr off [p.prt]).length = (recsL off f ((p.rs.take (k + 1)).map BV.b)).length + (recsL off (f + (p.rs.take (k + 1)).length) ((p.rs.drop (k + 1)).map BV.b)).length := by
            have e4 : recsFr off [p.prt] = recsL off f (p.rs.map BV.b) := by simp [recsFr, PM.prt, Hf.out]
            rw [e4]
            conv => lhs; rw [e2]
            rw [List.map_append, recsL_app, List.length_append, List.length_map]
          rw [Htot.out]
          conv => rhs; rw [e1]
          rw [List.map_append, List.map_cons, recsFr_app, show p.prt :: (ms.drop (j + 1)).map PM.prt = [p.prt] ++ (ms.drop (j + 1)).map PM.prt from rfl, recsFr_app, List.length_append, List.length_append, e3]
          omega)
        have hpA : pA = some ad := by rw [HpA.out, had]
        clear HpA
        subst hpA
        have HBs := Lib.hid hbs
        have HRn := Lib.hid hrn
        clear hbs hrn hr hy had hF1
        by_cases hoff : off ≤ y
        · have hge : (off : Int) ≤ (y : Int) := by omega
          have HC : Hid (Calls Tryd.prog 35 #[.slice r.A r.b.length r.c] wr (ClonePost wr r.b)) := Lib.hid (clone_any wr r.A r.b.length r.c r.b rfl (by omega) HBs.out HRn.out)
          rw [if_pos hoff] at Hstep
          obtain ⟨t, ht, htn, hbt⟩ := hT.out
          have Ht := Lib.hid ht
          have Hbt := Lib.hid hbt
          have Hbn : Hid (Boxed wr Bn 3 (.int .i64 (n : Nat))) := Lib.hid (hK.out.heap H2.out Hne.out)
          clear ht hbt hT
          by_cases hlast : t + 1 < n
          · have hl1 : decide ((t : Int) + 1 < (n : Int)) = true := by rw [decide_eq_true_eq]; omega
            have HSt : Hid (∀ W x v, Kept (fun _ => False) wr W → Calls Tryd.prog 38 #[.int .u64 x, v, .pointer (some ⟨Bt, 0, none⟩), .pointer (some ⟨Bn, 0, none⟩)] W fun e w' => e = .returned (.bool true) ∧ Boxed w' Bt 3 (.int .i64 ((t + 1 : Nat) : Int)) ∧ Kept (fun k => k = Bt) W w') := Lib.hid fun W x v hW => stopsB1_any W Bt Bn t n x v true (hW.heap Hbt.out (by simp)) (hW.heap Hbn.out (by simp)) Hne.out (by omega) hl1
            clear hl1
            go_wp2_with (first
              | (go_at_call 35; refine HC.out.mono ?_; rintro e w3 ⟨v3, rfl, ho3, hk3⟩; obtain ⟨A3, c3, rfl⟩ := own_slice ho3; have HK3 := Lib.hid hk3; clear ho3 hk3)
              | (go_at_call 38; refine (HSt.out _ _ _ HK3.out).mono ?_; rintro e w4 ⟨rfl, hb4, hk4⟩; have HB4 := Lib.hid hb4; have HK4 := Lib.hid hk4; clear hb4 hk4))
            go_roundw
            case rel => exact ⟨k + 1, by go_num, by omega, Lib.hid ⟨t + 1, by rw [Ht.out, Hstep.out]; omega, by omega, HB4.out⟩, Lib.hid ((hK.out.trans' (HK3.out.mono fun _ _ e => e.elim)).trans' HK4.out), Lib.hid (HK4.out.heap (HK3.out.heap hB1.out (by simp)) HBt.out)⟩
            case measure => simp [intOf]; omega
          · have hl1 : decide ((t : Int) + 1 < (n : Int)) = false := by rw [decide_eq_false_iff_not]; omega
            have HSt : Hid (∀ W x v, Kept (fun _ => False) wr W → Calls Tryd.prog 38 #[.int .u64 x, v, .pointer (some ⟨Bt, 0, none⟩), .pointer (some ⟨Bn, 0, none⟩)] W fun e w' => e = .returned (.bool false) ∧ Boxed w' Bt 3 (.int .i64 ((t + 1 : Nat) : Int)) ∧ Kept (fun k => k = Bt) W w') := Lib.hid fun W x v hW => stopsB1_any W Bt Bn t n x v false (hW.heap Hbt.out (by simp)) (hW.heap Hbn.out (by simp)) Hne.out (by omega) hl1
            clear hl1
            have Hmin : Hid (min n tot = t + 1) := Lib.hid (by have := Hlen.out; have := Hstep.out; have := Ht.out; omega)
            go_wp2_with (first
              | (go_at_call 35; refine HC.out.mono ?_; rintro e w3 ⟨v3, rfl, ho3, hk3⟩; obtain ⟨A3, c3, rfl⟩ := own_slice ho3; have HK3 := Lib.hid hk3; clear ho3 hk3)
              | (go_at_call 38; refine (HSt.out _ _ _ HK3.out).mono ?_; rintro e w4 ⟨rfl, hb4, hk4⟩; have HB4 := Lib.hid hb4; have HK4 := Lib.hid hk4; clear hb4 hk4))
            refine bodyPost_ret (results_none rfl _ _ _) rfl ?_
            exact ⟨rfl, by rw [Hmin.out]; exact HB4.out, (hK.out.trans' (HK3.out.mono fun _ _ e => e.elim)).trans' HK4.out⟩
        · have hge : (y : Int) < (off : Int) := by omega
          rw [if_neg hoff] at Hstep
          go_wp2
          go_roundw
          case rel => exact ⟨k + 1, by go_num, by omega, Lib.hid (by rw [Hstep.out]; exact hT.out), hK, hB1⟩
          case measure => simp [intOf]; omega
      · have hkl' : ¬ (k : Int) < (lr : Int) := by omega
        have hkr : k = lr := by omega
        have Hkr := Lib.hid hkr
        clear hkr
        go_wp2
        go_roundw
        case rel =>
          refine ⟨j + 1, by go_num, by omega, Lib.hid ?_, hK⟩
          obtain ⟨t, h8, h9, h10⟩ := hT.out
          refine ⟨t, ?_, h9, h10⟩
          rw [h8, List.take_of_length_le (l := p.rs) (by have := Hlr.out; have := Hkr.out; omega), List.take_add_one, Hp.out, Option.toList_some, List.map_append, recsFr_app, List.length_append]
          simp [recsFr, PM.prt, Hf.out]
        case measure => simp [intOf]; omega
    · have hlt' : ¬ (j : Int) < (m : Int) := by omega
      go_wp2
      refine bodyPost_end (results_none rfl _ _ _) rfl ?_
      have h9 : ms.take j = ms := List.take_of_length_le (by have := Hm.out; omega)
      obtain ⟨t, h8, h7, h10⟩ := hT.out
      rw [h9, ← Htot.out] at h8
      exact ⟨rfl, by rw [show min n tot = t by omega]; exact h10, hK.out⟩
end Go.Proofs.YtefpigakhhfcaaaDoor
end

/-! For the rows: slices of integers, of bytes, of slices of bytes that came in. -/
section
set_option linter.unusedVariables false
set_option linter.unusedSimpArgs false
namespace Go.Proofs.YtefpigakhhfcaaaDoor
open Go.ChangeShapes Go.WideShapes Go.ChangeAt Go.RowKit Go.Deep

theorem rcells_u8 : Tryd.prog.cellsOf 5 = 1 := by kernel_rfl
theorem rcells_int : Tryd.prog.cellsOf 3 = 1 := by kernel_rfl
theorem rcells_bytes : Tryd.prog.cellsOf 31 = 1 := by kernel_rfl
theorem rbytesOf_bytes : Tryd.prog.bytesOf 31 = 24 := by kernel_rfl
theorem rbytesOf_u8 : Tryd.prog.bytesOf 5 = 1 := by kernel_rfl
theorem row_ofI {H : Type} {enc : TypeId × Value → H} {W : World} {t e : TypeId} {k : IntKind} {fuel : Nat} {c : Value} {x : DataW H × List MemPlace} (ht : Tryd.prog.underlying t = some (.slice e)) (he : Tryd.prog.underlying e = some (.int k)) (hc : Tryd.prog.cellsOf e = 1)
    (h : DataW.trod enc Tryd.prog W 0 (fun _ => true) true fuel t [c] = some x) : ∃ A l cp zs, c = .slice A l cp ∧ IsRow k W A l cp zs := by
  rcases open_ints ht he hc h with ⟨hcs, _⟩ | ⟨x, l, c', zs, hcs, _, hl, hm, hz, _, hcell, hwz⟩
  · exact ⟨none, 0, 0, [], by simpa using hcs, .inl ⟨rfl, rfl, rfl, rfl⟩⟩
  · exact ⟨some x, l, c', zs, by simpa using hcs, .inr ⟨x, rfl, hl, hm, by simpa using hz, hcell, hwz⟩⟩
theorem rowI_bytes {w : World} {a : Option Addr} {len cap : Nat} {zs : List Int} (h : IsRow .u8 w a len cap zs) : ∃ xs : List UInt8, len = xs.length ∧ Bs w a xs ∧ (a = none → cap = 0) ∧ ∀ ad, a = some ad → xs = [] ∨ ad.block < w.heap.size := by
  rcases h with ⟨rfl, rfl, rfl, rfl⟩ | ⟨x, rfl, hl, hm, hz, hc, hw⟩
  · exact ⟨[], rfl, Bs.nil _ _, fun _ => rfl, fun ad e => (by cases e)⟩
  · refine ⟨(zs.take len).map fun z => UInt8.ofNat z.toNat, by simp; omega, ⟨fun e => (by cases e), fun ad e j u hu => ?_⟩, fun e => (by cases e), fun ad e => ?_⟩
    · cases e
      have hj : j < len := by have := (List.getElem?_eq_some_iff.1 hu).1; simp at this; omega
      have hjz : j < zs.length := by omega
      rw [hc j hjz]
      have hg : zs.getD j 0 = zs[j] := by simp [List.getD, hjz]
      have hz' := hw zs[j] (List.getElem_mem hjz)
      have hz2 : 0 ≤ zs[j] ∧ zs[j] < 256 := by
        simp [Lit.wf, IntKind.min, IntKind.max, IntKind.signed, IntKind.bits] at hz'
        omega
      have hu2 : u = .int .u8 ((UInt8.ofNat zs[j].toNat).toNat : Int) := by
        simp [List.getElem?_take, hj, hjz, bv] at hu
        simp [← hu]
      rw [hg, hu2]
      simp
      omega
    · cases e
      rcases Nat.eq_zero_or_pos len with h0 | h0
      · exact .inl (by subst h0; simp)
      · exact .inr (by have := World.block_lt_of_cell? w _ (hc 0 (by omega)); rwa [add_block] at this)
theorem rlist_of {α : Type} {P : Nat → α → Prop} : ∀ n, (∀ j, j < n → ∃ a, P j a) → ∃ l : List α, l.length = n ∧ ∀ (j : Nat) a, l[j]? = some a → P j a
  | 0, _ => ⟨[], rfl, fun j a h => by simp at h⟩
  | n + 1, h => by
    obtain ⟨l, h1, h2⟩ := rlist_of n fun j hj => h j (by omega)
    obtain ⟨a, ha⟩ := h n (Nat.lt_succ_self n)
    refine ⟨l ++ [a], by simp [h1], fun j b hb => ?_⟩
    rcases Nat.lt_or_ge j l.length with hj | hj
    · rw [List.getElem?_append_left hj] at hb
      exact h2 j b hb
    · rw [List.getElem?_append_right hj] at hb
      have : j - l.length = 0 := by
        have := (List.getElem?_eq_some_iff.1 hb).1
        simp at this; omega
      rw [this] at hb
      simp at hb
      obtain rfl : j = n := by omega
      rwa [← hb]
/-- Slices of bytes that can be read, and where they lie. -/
def InBs (W : World) (A : Option Addr) (ps : List BV) : Prop := ∀ (j : Nat) p, ps[j]? = some p → ∃ ad, A = some ad ∧ W.cell? (ad.add j) = some p.val ∧ Bs W p.A p.b ∧ (p.A = none → p.c = 0)
theorem InBs.kept {W W' : World} {A : Option Addr} {ps : List BV} (h : InBs W A ps) (hk : Kept (fun _ => False) W W') : InBs W' A ps := fun j p hp => by
  obtain ⟨ad, h1, h2, h3, h4⟩ := h j p hp
  exact ⟨ad, h1, hk.cell h2 (by simp), h3.kept hk (by simp), h4⟩
theorem bytess_of {H : Type} {enc : TypeId × Value → H} {W : World} {fuel : Nat} {A : Option Addr} {l c : Nat} {x : DataW H × List MemPlace}
    (h : DataW.trod enc Tryd.prog W 0 (fun _ => true) true fuel 22 [.slice A l c] = some x) (hx : ∀ n ∈ x.1.weights Tryd.prog 22, n ≤ reachBytes) :
    ∃ ps : List BV, l = ps.length ∧ l ≤ reachBytes ∧ InBs W A ps := by
  rcases open_slice Tryd.underlying22 h with ⟨hcs, _⟩ | ⟨a, len, cap, m, n, D, Pl, hcs, _, hl, hm, hmm, hxx, hel⟩
  · simp at hcs
    obtain ⟨rfl, rfl, rfl⟩ := hcs
    exact ⟨[], rfl, Nat.zero_le _, fun j p hp => by simp at hp⟩
  · simp at hcs
    obtain ⟨rfl, rfl, rfl⟩ := hcs
    subst hxx
    simp only [DataW.weights, Tryd.underlying22] at hx
    have hb := hx _ List.mem_cons_self
    simp only [List.length_map, List.length_range, rbytesOf_bytes] at hb
    simp at hmm
    obtain ⟨ps, hl1, hl2⟩ := rlist_of (P := fun j (p : BV) => ∃ ad, some a = some ad ∧ W.cell? (ad.add j) = some p.val ∧ Bs W p.A p.b ∧ (p.A = none → p.c = 0)) l fun j hj => by
      obtain ⟨cs', h1, h2⟩ := hel j (by omega)
      rw [rcells_bytes] at h1
      obtain ⟨_, hlen, hcell⟩ := World.cells?_some h1
      obtain ⟨c0, rfl⟩ : ∃ c0, cs' = [c0] := by
        match cs', hlen with
        | [c0], _ => exact ⟨c0, rfl⟩
      obtain ⟨Ab, lb, cb, zb, e1, rb⟩ := row_ofI Tryd.underlying31 Tryd.underlying5 rcells_u8 h2
      subst e1
      obtain ⟨xs, hxl, hB, hA, _⟩ := rowI_bytes rb
      subst hxl
      have hc0 := hcell 0 (by decide)
      exact ⟨⟨Ab, cb, xs⟩, a, rfl, by simpa [Addr.add, BV.val, Addr.add_add] using hc0, hB, hA⟩
    exact ⟨ps, hl1.symm, by omega, hl2⟩
end Go.Proofs.YtefpigakhhfcaaaDoor
end

/-! couranthelp.Stops over what From hands back; for SeglogFrom. -/
section
set_option linter.unusedVariables false
set_option linter.unusedSimpArgs false
namespace Go.Proofs.YtefpigakhhfcaaaDoor
open Go.RowKit

set_option maxRecDepth 100000 in
set_option maxHeartbeats 4000000 in
theorem slStops_any (w : World) (Bp Bo off n : Nat) (v : Value) (ms : List PM) (h : FromAt w Bp Bo off v ms) (hl : ms.length ≤ 900000) (hr : ∀ p ∈ ms, p.rs.length ≤ 1000000 ∧ p.first ≤ 1000000000 ∧ ∀ r ∈ p.rs, r.b.length ≤ 1000000) (hn1 : 1 ≤ n) (hn9 : n ≤ 1000000) :
    Calls Tryd.prog 14 #[.func (.func 37) #[] #[.pointer (some ⟨Bp, 0, none⟩), .pointer (some ⟨Bo, 0, none⟩)], .int .i64 (n : Nat)] w fun e w' => e = .returned (.int .i64 ((min n (recsFr off (ms.map PM.prt)).length : Nat) : Int)) ∧ Kept (fun _ => False) w w' := by
  have hne : ∀ W, (binOp .eql 35 (.func (.func 37) #[] #[.pointer (some ⟨Bp, 0, none⟩), .pointer (some ⟨Bo, 0, none⟩)]) .nilFunc).run Tryd.prog W = .ok (.bool false) W := fun W => by kernel_rfl
  have hn2 : ¬ (n : Int) < 1 := by omega
  obtain ⟨W2, hW2⟩ : ∃ W2, W2 = (w.alloc (.cells #[.int .i64 (n : Nat)] 3)).alloc (.cells #[.int .i64 0] 3) := ⟨_, rfl⟩
  obtain ⟨Bn, hBn⟩ : ∃ Bn, Bn = w.heap.size := ⟨_, rfl⟩
  have hk2 : Kept (fun _ => False) w W2 := by rw [hW2]; exact ((Kept.refl _ w).alloc _).alloc _
  have hb1 : Boxed W2 Bn 3 (.int .i64 (n : Nat)) := by rw [hW2, hBn]; exact (Boxed.new w 3 (.int .i64 (n : Nat))).alloc _
  have hb2 : Boxed W2 (Bn + 1) 3 (.int .i64 0) := by
    have := Boxed.new (w.alloc (.cells #[.int .i64 (n : Nat)] 3)) 3 (.int .i64 0)
    rw [hW2, hBn]; simpa using this
  have hF := h.stay hk2
  have HC := Lib.hid (slFrom1_stops W2 Bp Bo off (Bn + 1) Bn n v ms hF hl hr hb2 hb1 hn1 hn9 (by omega) (fun e => by have := h.lt _ e; omega))
  obtain ⟨mn, hmn⟩ : ∃ mn, mn = min n (recsFr off (ms.map PM.prt)).length := ⟨_, rfl⟩
  rw [← hmn] at HC ⊢
  have HK2 := Lib.hid hk2
  have HBn := Lib.hid hBn
  clear h hl hr hb1 hb2 hF hk2 hmn
  go_enter Tryd.func14, Tryd.ntmps14
  go_upto_region 4 with fail
  rw [← hBn, ← hW2]
  clear hBn hW2
  go_wp2_with (go_at_call 37; refine HC.out.mono ?_; rintro e w3 ⟨rfl, hb3, hk3⟩; have g3 := hb3.cell; have HK3 := Lib.hid hk3; clear hb3 hk3)
  go_ret
  exact ⟨rfl, HK2.out.trans HK3.out fun i hi e => by have := HBn.out; omega⟩
/-- What came in reads still, whatever new has turned. -/
theorem Bs.up {w W : World} {A : Option Addr} {xs : List UInt8} (h : Bs w A xs) (hk : Kept (fun k => w.heap.size ≤ k) w W) : Bs W A xs :=
  ⟨h.1, fun ad e j u hu => hk.cell (h.2 ad e j u hu) (by have := World.block_lt_of_cell? w _ (h.2 ad e j u hu); omega)⟩
theorem LW.put_kept {w0 w W : World} {d : Disk} {T F M : Nat} {nm : ByteArray} {ps : List PF} {clock : Nat} {lim : Int} {v : Value} {ms : List PM} {sf N U : Nat} (h : LW w0 w d T F M nm ps clock lim v ms sf N U) (hk : Kept (LFoot T F M ps v ms) w W) : Kept (fun k => w0.heap.size ≤ k) w0 W :=
  (h.kw.mono fun _ _ e => e.elim).trans hk fun i hi e => h.fo i e
end Go.Proofs.YtefpigakhhfcaaaDoor
end
