import Derived.Test.YtefpigakhhfcaaaDoorMbo
/-! The iterator that From hands back. -/
section
set_option linter.unusedVariables false
set_option linter.unusedSimpArgs false
namespace Go.Proofs.YtefpigakhhfcaaaDoor
open Go.RowKit Go.Sort
attribute [local go_sem] Oper.semAt_some

theorem own_same {w w' : World} {base e size n : Nat} {v : Value} {xs : List Value} (h : w.ownsRow base e size v n xs) (hk : ∀ k, v.ownBlock = some k → w'.heap[k]? = w.heap[k]?) : w'.ownsRow base e size v n xs :=
  ⟨h.1, h.2.imp id fun ⟨g, cap, cur, hv, hb, hh, r⟩ => ⟨g, cap, cur, hv, hb, (hk g (by rw [hv]; rfl)).trans hh, r⟩⟩
/-- What the iterator reads. -/
structure FromAt (w : World) (Bp Bo off : Nat) (v : Value) (ms : List PM) : Prop where
  bp : Boxed w Bp 59 v
  bo : Boxed w Bo 23 (.int .u64 (off : Nat))
  row : RowM w v ms
  rs : ∀ p ∈ ms, BBs w p.A p.rs
/-- The blocks that it reads. -/
def rdM (Bp Bo : Nat) (v : Value) (ms : List PM) (k : Nat) : Prop := k = Bp ∨ k = Bo ∨ v.ownBlock = some k ∨ ∃ p ∈ ms, (p.rs ≠ [] ∧ rdOf p.A k) ∨ ∃ r ∈ p.rs, r.b ≠ [] ∧ rdOf r.A k
section
variable {w w' : World} {Bp Bo off : Nat} {v : Value} {ms : List PM}
theorem FromAt.same (h : FromAt w Bp Bo off v ms) (hk : ∀ k, rdM Bp Bo v ms k → w'.heap[k]? = w.heap[k]?) : FromAt w' Bp Bo off v ms := by
  refine ⟨(hk _ (.inl rfl)).trans h.bp, (hk _ (.inr (.inl rfl))).trans h.bo, own_same h.row fun k e => hk k (.inr (.inr (.inl e))), fun p hp j r hr => ?_⟩
  obtain ⟨ad, h1, h2, h3, h4⟩ := h.rs p hp j r hr
  have hne : p.rs ≠ [] := fun e2 => by rw [e2] at hr; simp at hr
  refine ⟨ad, h1, (World.cell?_of_block (hk _ (.inr (.inr (.inr ⟨p, hp, .inl ⟨hne, ad, h1, (add_block ad j).symm⟩⟩))))).trans h2, ⟨h3.1, fun ad2 e j2 u hu => ?_⟩, h4⟩
  have hne2 : r.b ≠ [] := fun e2 => by rw [e2] at hu; simp at hu
  exact (World.cell?_of_block (hk _ (.inr (.inr (.inr ⟨p, hp, .inr ⟨r, List.mem_of_getElem? hr, hne2, ad2, e, (add_block ad2 j2).symm⟩⟩))))).trans (h3.2 ad2 e j2 u hu)
theorem FromAt.lt (h : FromAt w Bp Bo off v ms) : ∀ k, rdM Bp Bo v ms k → k < w.heap.size := by
  rintro k (rfl | rfl | e | ⟨p, hp, ⟨hne, ad, e, rfl⟩ | ⟨r, hr, hne, ad, e, rfl⟩⟩)
  · exact (Array.getElem?_eq_some_iff.1 h.bp).1
  · exact (Array.getElem?_eq_some_iff.1 h.bo).1
  · exact own_ltH h.row k e
  · obtain ⟨r, hr⟩ : ∃ r, p.rs[0]? = some r := by cases h9 : p.rs with
      | nil => exact absurd h9 hne
      | cons r l => exact ⟨r, rfl⟩
    obtain ⟨ad2, h1, h2, -⟩ := h.rs p hp 0 r hr
    rw [e] at h1; injection h1 with h1; subst h1
    have := World.block_lt_of_cell? w _ h2
    rwa [add_block] at this
  · obtain ⟨j, hj⟩ := List.mem_iff_getElem?.1 hr
    obtain ⟨ad2, h1, h2, h3, h4⟩ := h.rs p hp j r hj
    obtain ⟨u, hu⟩ : ∃ u, r.b[0]? = some u := by cases h9 : r.b with
      | nil => exact absurd h9 hne
      | cons u l => exact ⟨u, rfl⟩
    have := World.block_lt_of_cell? w _ (h3.2 ad e 0 (bv u) (by simp [hu]))
    rwa [add_block] at this
theorem FromAt.stay (h : FromAt w Bp Bo off v ms) (hk : Kept (fun _ => False) w w') : FromAt w' Bp Bo off v ms :=
  h.same fun k hr => hk.block k (h.lt k hr) (by simp)
end
/-- What is handed to a round. -/
def encR (x : List UInt8 × Nat) (v : Value) : Array Value := #[.int .u64 (x.2 : Nat), v]
def okR (b : Nat) (x : List UInt8 × Nat) (v : Value) (W : World) : Prop := W.ownsRow b 5 1 v x.1.length (x.1.map bv)
set_option maxRecDepth 100000 in
set_option maxHeartbeats 8000000 in
theorem slFrom1_iter (Bp Bo off : Nat) (v : Value) (ms : List PM) (w : World) (h : FromAt w Bp Bo off v ms) (hl : ms.length ≤ 900000) (hr : ∀ p ∈ ms, p.rs.length ≤ 1000000 ∧ p.first ≤ 1000000000 ∧ ∀ r ∈ p.rs, r.b.length ≤ 1000000) :
    IterF Tryd.prog 37 #[.pointer (some ⟨Bp, 0, none⟩), .pointer (some ⟨Bo, 0, none⟩)] encR (okR w.heap.size) (fun _ => False) (rdM Bp Bo v ms) (recsFr off (ms.map PM.prt)) w := by
  intro l J Jx S0 W hW hJ hJx hSs hY h0
  refine callsIn_of_wp Tryd.func37 rfl trivial ?_ rfl
  have hF := h.stay hW
  obtain ⟨A, c, rfl⟩ := own_slice h.row
  have hcp := hF.bp.cell
  obtain ⟨n, hn⟩ : ∃ n, n = ms.length := ⟨_, rfl⟩
  rw [← hn] at hcp hF hl h
  obtain ⟨V, hV⟩ : ∃ V, V = Value.slice A n c := ⟨_, rfl⟩
  have hV9 : V = Value.slice A ms.length c := by rw [hV, hn]
  rw [← hn, ← hV] at hSs
  rw [← hV] at hF
  have Hn := Lib.hid hn
  have HV := Lib.hid hV
  have HR := Lib.hid hr
  have HY := Lib.hid hY
  have H0 := Lib.hid h0
  have HJ := Lib.hid hJ
  have HSs := Lib.hid hSs
  have HW := Lib.hid hW.size
  have HF := Lib.hid hF
  clear h hW hY hr hn h0 hF hJ hSs hV hV9
  simp only [Tryd.ntmps37, List.size_toArray, List.length_cons, List.length_nil, Nat.reduceAdd, Nat.reduceSub, Array.replicate_succ, Array.replicate_zero, List.push_toArray, List.append_toArray, List.nil_append, List.cons_append]
  gi_wp2
  gi_loopw [11] (fun i wr => ∃ (j : Nat) (pre : List ((List UInt8 × Nat) × Value)), i = .int .i64 j ∧ j ≤ n ∧ Hid (pre.map Prod.fst = recsFr off ((ms.take j).map PM.prt)) ∧ Hid (∃ S, J pre S wr) ∧ Hid (FromAt wr Bp Bo off V ms) ∧ Hid (w.heap.size ≤ wr.heap.size)) (fun i _ => n - iNat i)
  case atStart => exact ⟨0, [], rfl, by omega, Lib.hid rfl, Lib.hid ⟨_, H0.out⟩, HF, HW⟩
  case round =>
    obtain ⟨j, pre, rfl, hj, hpre, hJ1, hF1, hw1⟩ := hrel
    by_cases hlt : j < n
    · have hlt' : (j : Int) < (n : Int) := by omega
      obtain ⟨p, hp⟩ : ∃ p, ms[j]? = some p := ⟨_, List.getElem?_eq_getElem (by have := Hn.out; omega)⟩
      obtain ⟨G, c', hvf, -, hcn, -, -, hcell⟩ := hF1.out.row.form (fun e => by have := Hn.out; rw [e] at this; simp at this; omega)
      rw [HV.out] at hvf
      simp only [Value.slice.injEq] at hvf
      obtain ⟨rfl, -, rfl⟩ := hvf
      obtain ⟨x0, x1, x2⟩ := hcell j p hp
      unfold PM.rv at x1
      obtain ⟨lr, hlr⟩ : ∃ lr, lr = p.rs.length := ⟨_, rfl⟩
      rw [← hlr] at x1
      obtain ⟨f, hf⟩ : ∃ f, f = p.first := ⟨_, rfl⟩
      rw [← hf] at x0
      obtain ⟨sz, hsz⟩ : ∃ sz, sz = szP p.prt := ⟨_, rfl⟩
      rw [← hsz] at x2
      obtain ⟨pA, hpA⟩ : ∃ pA, pA = p.A := ⟨_, rfl⟩
      rw [← hpA] at x1
      have HpA := Lib.hid hpA
      clear hpA
      have Hp := Lib.hid hp
      have Hlr := Lib.hid hlr
      have Hf := Lib.hid hf
      clear hcell hp hlr hf hsz hcn
      gi_wp2_with fail
      obtain ⟨B2, hB2⟩ : ∃ B2, B2 = wr.heap.size := ⟨_, rfl⟩
      obtain ⟨V2, hV2⟩ : ∃ V2, V2 = wr.alloc (.cells #[.int .u64 (f : Nat), .slice pA lr p.c, .int .i64 (sz : Nat)] 71) := ⟨_, rfl⟩
      have hkv : Kept (fun _ => False) wr V2 := by rw [hV2]; exact (Kept.refl _ wr).alloc _
      have HB : Hid (V2.heap[B2]? = some (.cells #[.int .u64 (f : Nat), .slice pA lr p.c, .int .i64 (sz : Nat)] 71 (0, 0))) := Lib.hid (by rw [hV2, hB2]; exact heap_alloc_new wr _)
      have HJ2 : Hid (∃ S, J pre S V2 ∧ ¬ S B2) := Lib.hid (by
        obtain ⟨S, hS⟩ := hJ1.out
        exact ⟨S, HJ.out _ _ _ _ hS hkv, fun h => by have := (HSs.out _ _ _ hS B2 h).1; omega⟩)
      have HF2 := Lib.hid (hF1.out.stay hkv)
      have Hw2 : Hid (w.heap.size ≤ V2.heap.size) := Lib.hid (Nat.le_trans hw1.out hkv.size)
      have Hpre : Hid (pre.map Prod.fst = recsFr off ((ms.take j).map PM.prt) ++ recsL off f ((p.rs.take 0).map BV.b)) := Lib.hid (by rw [hpre.out]; simp [recsL])
      rw [← hB2, ← hV2]
      have hlr9 : lr ≤ 1000000 := by have := (HR.out p (List.mem_of_getElem? Hp.out)).1; have := Hlr.out; omega
      have hf9 : f ≤ 1000000000 := by have := (HR.out p (List.mem_of_getElem? Hp.out)).2.1; have := Hf.out; omega
      clear hB2 hV2 hkv x0 x1 x2 hpre hJ1 hF1 hw1 hcp
      gi_loopw [18] (fun i w2 => ∃ (k : Nat) (pre2 : List ((List UInt8 × Nat) × Value)), i = .int .i64 k ∧ k ≤ lr ∧ Hid (pre2.map Prod.fst = recsFr off ((ms.take j).map PM.prt) ++ recsL off f ((p.rs.take k).map BV.b)) ∧ Hid (∃ S, J pre2 S w2 ∧ ¬ S B2) ∧ Hid (FromAt w2 Bp Bo off V ms) ∧ Hid (w2.heap[B2]? = some (.cells #[.int .u64 (f : Nat), .slice pA lr p.c, .int .i64 (sz : Nat)] 71 (0, 0))) ∧ Hid (w.heap.size ≤ w2.heap.size)) (fun i _ => lr - iNat i)
      case' atStart => exact ⟨0, pre, rfl, by omega, Hpre, HJ2, HF2, HB, Hw2⟩
      clear Hpre HJ2 HF2 HB Hw2
      obtain ⟨k, pre2, rfl, hk, hpre, hJ1, hF1, hB1, hw1⟩ := hrel
      by_cases hkl : k < lr
      · have hkl' : (k : Int) < (lr : Int) := by omega
        obtain ⟨r, hr⟩ : ∃ r, p.rs[k]? = some r := ⟨_, List.getElem?_eq_getElem (by have := Hlr.out; omega)⟩
        obtain ⟨ad, had, y0, hbs, hrn⟩ := hF1.out.rs p (List.mem_of_getElem? Hp.out) k r hr
        have z0 : wr.cell? ⟨B2, 0, none⟩ = some (.int .u64 (f : Nat)) := by simp [World.cell?, hB1.out]
        have zo := hF1.out.bo.cell
        obtain ⟨y, hy⟩ : ∃ y, y = f + k := ⟨_, rfl⟩
        have h5 : IntKind.u64.wrap ((k : Nat) : Int) = (k : Int) := by rw [IntKind.wrap_u64]; omega
        have h6 : IntKind.u64.wrap ((f : Int) + (k : Int)) = ((y : Nat) : Int) := by rw [IntKind.wrap_u64]; omega
        have HBs := Lib.hid hbs
        have HRn := Lib.hid hrn
        have Hr := Lib.hid hr
        have Hy := Lib.hid hy
        have Hsum : Hid (recsFr off (ms.map PM.prt) = pre2.map Prod.fst ++ recsL off y [r.b] ++ (recsL off (y + 1) ((p.rs.drop (k + 1)).map BV.b) ++ recsFr off ((ms.drop (j + 1)).map PM.prt))) := Lib.hid (by
          have hjm := (List.getElem?_eq_some_iff.1 Hp.out)
          have hkm := (List.getElem?_eq_some_iff.1 Hr.out)
          have e1 : ms = ms.take j ++ p :: ms.drop (j + 1) := by rw [← hjm.2, ← List.drop_eq_getElem_cons hjm.1, List.take_append_drop]
          have e2 : p.rs = p.rs.take k ++ r :: p.rs.drop (k + 1) := by rw [← hkm.2, ← List.drop_eq_getElem_cons hkm.1, List.take_append_drop]
          have e3 : recsFr off [p.prt] = recsL off f ((p.rs.take k).map BV.b) ++ (recsL off y [r.b] ++ recsL off (y + 1) ((p.rs.drop (k + 1)).map BV.b)) := by
            have e4 : recsFr off [p.prt] = recsL off f (p.rs.map BV.b) := by simp [recsFr, PM.prt, Hf.out]
            have e5 : (p.rs.take k).length = k := by rw [List.length_take]; have := Hlr.out; omega
            rw [e4]
            conv => lhs; rw [e2]
            rw [List.map_append, List.map_cons, recsL_app, List.length_map, e5, ← Hy.out, show r.b :: (p.rs.drop (k + 1)).map BV.b = [r.b] ++ (p.rs.drop (k + 1)).map BV.b from rfl, recsL_app, List.length_singleton]
          rw [hpre.out]
          conv => lhs; rw [e1]
          rw [List.map_append, List.map_cons, recsFr_app, show p.prt :: (ms.drop (j + 1)).map PM.prt = [p.prt] ++ (ms.drop (j + 1)).map PM.prt from rfl, recsFr_app, e3]
          simp [List.append_assoc])
        have Hpre2 : Hid (pre2.map Prod.fst ++ recsL off y [r.b] = recsFr off ((ms.take j).map PM.prt) ++ recsL off f ((p.rs.take (k + 1)).map BV.b)) := Lib.hid (by
          have e5 : (p.rs.take k).length = k := by rw [List.length_take]; have := Hlr.out; omega
          rw [hpre.out, List.take_add_one, Hr.out, Option.toList_some, List.map_append, recsL_app, List.length_map, e5, ← Hy.out, List.append_assoc]; rfl)
        have hb9 : r.b.length ≤ 1000000 := (HR.out p (List.mem_of_getElem? Hp.out)).2.2 r (List.mem_of_getElem? hr)
        have hpA : pA = some ad := by rw [HpA.out, had]
        clear HpA
        subst hpA
        clear hbs hrn hr hy had
        by_cases hoff : off ≤ y
        · have hge : (off : Int) ≤ (y : Int) := by omega
          have HC : Hid (Calls Tryd.prog 35 #[.slice r.A r.b.length r.c] wr (ClonePost wr r.b)) := Lib.hid (clone_any wr r.A r.b.length r.c r.b rfl (by omega) HBs.out HRn.out)
          rw [recsL_one, if_pos hoff] at Hsum Hpre2
          gi_wp2_with (first | (refine ⟨trivial, ?_⟩; gi_at_call 35; refine (callsIn_wide.2 HC.out).mono ?_; rintro e w3 ⟨v3, rfl, ho3, hk3⟩; obtain ⟨A3, c3, rfl⟩ := own_slice ho3; obtain ⟨S, hJS, hnB⟩ := hJ1.out; have hJ3 := HJ.out _ _ _ _ hJS hk3; obtain ⟨fn, tmps, assign, body, hy, hR⟩ := HY.out pre2 S (r.b, y) (.slice A3 r.b.length c3) _ w3 (by rw [Hsum.out, List.append_assoc]; rfl) hJ3 (own_low ho3 hw1.out); unfold encR at hy; have HR3 := Lib.hid hR; have HK3 := Lib.hid hk3; have HJ3 := Lib.hid hJ3; have HnB := Lib.hid hnB; clear ho3 hJS hJ3 hnB hR hk3))
          refine HR3.out.mono ?_
          rintro e w4 (⟨rfl, S', hJ4, hk4, hs4⟩ | ⟨rfl, hJx4⟩)
          · have HX : Hid ((∃ S, J (pre2 ++ [((r.b, y), Value.slice A3 r.b.length c3)]) S w4 ∧ ¬ S B2) ∧ FromAt w4 Bp Bo off V ms ∧ w4.heap[B2]? = some (.cells #[.int .u64 (f : Nat), .slice (some ad) lr p.c, .int .i64 (sz : Nat)] 71 (0, 0)) ∧ w.heap.size ≤ w4.heap.size) := Lib.hid (by
              have hB3 := HK3.out.heap hB1.out (by simp)
              have hlt3 := (Array.getElem?_eq_some_iff.1 hB3).1
              refine ⟨⟨S', hJ4, fun h => ?_⟩, (hF1.out.stay HK3.out).same fun q hq => ?_, hk4.heap hB3 HnB.out, ?_⟩
              · rcases hs4 B2 h with h | h
                · exact HnB.out h
                · omega
              · exact hk4.block q ((hF1.out.stay HK3.out).lt q hq) fun h => (HSs.out _ _ _ HJ3.out q h).2 hq
              · have := HK3.out.size; have := hk4.size; have := hw1.out; omega)
            clear hJ4 hk4 hs4
            gi_wp2
            go_roundw
            case rel => exact ⟨k + 1, pre2 ++ [((r.b, y), Value.slice A3 r.b.length c3)], congrArg (Value.int .i64) (by omega), by omega, Lib.hid (by rw [List.map_append]; exact Hpre2.out), Lib.hid HX.out.1, Lib.hid HX.out.2.1, Lib.hid HX.out.2.2.1, Lib.hid HX.out.2.2.2⟩
            case measure => simp only [iNat]; omega
          · gi_wp2
            refine bodyPost_ret (results_none rfl _ _ _) rfl ?_
            refine ⟨⟨_, rfl⟩, .inr ⟨_, ?_, hJx4⟩⟩
            rw [Hsum.out, List.map_append]
            exact List.prefix_append _ _
        · have hge : (y : Int) < (off : Int) := by omega
          rw [recsL_one, if_neg hoff, List.append_nil] at Hpre2
          gi_wp2
          refine ⟨trivial, ?_⟩
          gi_wp2
          refine ⟨(fun f hf => by cases hf), ?_⟩
          gi_wp2
          go_roundw
          case rel => exact ⟨k + 1, pre2, congrArg (Value.int .i64) (by omega), by omega, Hpre2, hJ1, hF1, hB1, hw1⟩
          case measure => simp only [iNat]; omega
      · have hkl' : ¬ (k : Int) < (lr : Int) := by omega
        have hkr : k = lr := by omega
        have Hkr := Lib.hid hkr
        clear hkr
        gi_wp2
        go_roundw
        case rel =>
          refine ⟨j + 1, pre2, congrArg (Value.int .i64) (by omega), by omega, Lib.hid ?_, Lib.hid ?_, hF1, hw1⟩
          · rw [hpre.out, List.take_of_length_le (l := p.rs) (by have := Hlr.out; have := Hkr.out; omega), List.take_add_one, Hp.out, Option.toList_some, List.map_append, recsFr_app]
            simp [recsFr, PM.prt, Hf.out]
          · obtain ⟨S, h1, -⟩ := hJ1.out
            exact ⟨S, h1⟩
        case measure => simp only [iNat]; omega
    · have hlt' : ¬ (j : Int) < (n : Int) := by omega
      gi_wp2
      refine bodyPost_end (results_none rfl _ _ _) rfl ?_
      have : ms.take j = ms := List.take_of_length_le (by have := Hn.out; omega)
      obtain ⟨S, hS⟩ := hJ1.out
      exact ⟨⟨_, rfl⟩, .inl ⟨pre, by rw [hpre.out, this], S, hS⟩⟩
end Go.Proofs.YtefpigakhhfcaaaDoor
end
