import Derived.Test.YtibalgfejfjndaaGreatDoorMau
/-! SeglogPlays' world: put, a segment more. -/
section
set_option linter.unusedVariables false
set_option linter.unusedSimpArgs false
namespace Go.Proofs.YtibalgfejfjndaaGreatDoor
open Go.RowKit
section
variable {w0 W : World} {B N : Nat} {d : Wd} {G : List Prt} {rs : List BV}
/-- A segment more has been set. -/
theorem put_seg {W2 w4 w5 W6 : World} {A A5 : Option Addr} {n m c k5 nx lr0 : Nat} {o : Obj} (h2 : WG w0 W2 B { d with safe := lr0 } G rs N) (m2 : WMv w0 W B d W2 { d with safe := lr0 }) (hsv : d.sv = .slice A n c) (hk4 : Kept (fun _ => False) W2 w4)
    (hO : w5.ownsRow w0.heap.size 103 2 (.slice A5 m k5) m (cellsS G ++ [.int .u64 (nx : Nat), .int .i64 0])) (hG : Grew (w4.alloc o) w5 (.slice A n c) (.slice A5 m k5)) (hb5 : WB w5 B { d with safe := lr0 }) (hn : n = G.length) (hm : m = n + 1) (hW6 : W6 = w5.setCell ⟨B, 5, none⟩ (.slice A5 m k5)) :
    WB W6 B { d with safe := lr0, sv := .slice A5 m k5 } ∧ SegAt W6 w0.heap.size (.slice A5 m k5) (G ++ [(nx, [])]) ∧ RowS W6 w0.heap.size 30 d.rv (rs.map BV.val) N ∧ WMv w0 W B d W6 { d with safe := lr0, sv := .slice A5 m k5 } ∧ ∃ s5, A5 = some ⟨s5, 0, none⟩ ∧ W6.cell? ⟨s5, n * 2 + 1, none⟩ = some (.int .i64 0) := by
  have hnb := h2.nB
  have hsv2 : ({ d with safe := lr0 } : Wd).sv = .slice A n c := hsv
  have ha : Kept (fun _ => False) W2 (w4.alloc o) := hk4.alloc _
  have hk5 : Kept (fun k => (Value.slice A n c).ownBlock = some k) W2 w5 := (ha.mono fun _ _ e => False.elim e).trans' (hG.kept)
  have hset : Kept (fun k => k = B) w5 W6 := by rw [hW6]; exact kF w5 B 5 _
  have nB5 : ∀ k, (Value.slice A5 m k5).ownBlock = some k → k ≠ B := fun k e e2 => hb5.noRow hO (by decide) (by rw [e, e2])
  have hO6 : SegAt W6 w0.heap.size (.slice A5 m k5) (G ++ [(nx, [])]) := by
    have h1 := own_kept hO hset fun k e => nB5 k e
    unfold SegAt
    rw [cellsS_snoc, List.length_append, List.length_singleton, ← hn, ← hm]
    exact h1
  obtain ⟨s5, c5, e5, -, hcell⟩ := hO6.cells (by simp)
  simp only [Value.slice.injEq] at e5
  refine ⟨by rw [hW6]; exact hb5.set 5 _ _ rfl, hO6, ?_, m2.trans ⟨(hk5.mono fun k _ e => .inr (.inr (by rw [hsv2]; exact e))).trans' (hset.mono fun k _ e => .inl e), fun k e => ?_⟩, s5, e5.1, ?_⟩
  · exact (h2.rv.kept hk5 fun k e e2 => hnb.2.2 k e (by rw [hsv2]; exact e2)).kept hset fun k e => hnb.1 k e
  · rcases e with e | e | e
    · exact .inl (.inl e)
    · exact .inl (.inr (.inl e))
    · rcases hG with h9 | h9
      · exact .inl (.inr (.inr (by rw [hsv2, ← h9.1]; exact e)))
      · refine .inr ?_
        have e2 : (Value.slice A5 m k5).ownBlock = some k := e
        rw [h9.1] at e2
        injection e2 with e2
        have := ha.size
        omega
  · have := (hcell n (nx, []) (by rw [hn]; simp)).2
    exact this
/-- Its size has been set. -/
theorem put_sz {W6 W1 : World} {d6 : Wd} {s n nx z2 : Nat} {b : List UInt8} (hb : WB W6 B d6) (hs : SegAt W6 w0.heap.size d6.sv (G ++ [(nx, [])])) (hr : RowS W6 w0.heap.size 30 d6.rv (rs.map BV.val) N) (hm : WMv w0 W B d W6 d6) (hn : n = G.length) (hz : szP (nx, [b]) = z2)
    (hg : d6.sv.ownBlock = some s) (hW1 : W1 = (W6.setCell ⟨s, n * 2 + 1, none⟩ (.int .i64 (z2 : Nat))).drew) : WB W1 B d6 ∧ SegAt W1 w0.heap.size d6.sv (G ++ [(nx, [b])]) ∧ RowS W1 w0.heap.size 30 d6.rv (rs.map BV.val) N ∧ WMv w0 W B d W1 d6 ∧ W6.heap.size ≤ W1.heap.size := by
  have h1 := kF W6 s (n * 2 + 1) (.int .i64 (z2 : Nat))
  have h2 : Kept (fun _ => False) (W6.setCell ⟨s, n * 2 + 1, none⟩ (.int .i64 (z2 : Nat))) W1 := by rw [hW1]; exact (Kept.refl _ _).drew
  have h3 : Kept (fun k => k = s) W6 W1 := h1.trans' (h2.mono fun _ _ e => False.elim e)
  have hs2 := segs_last (p' := (nx, [b])) hs hg rfl
  rw [hz, ← hn] at hs2
  obtain ⟨v0, n0, ys, k1, k2⟩ := hr.own
  refine ⟨hb.kept h3 fun e => hb.noRow hs (by decide) (by rw [hg, e]), own_kept hs2 h2 (by simp), hr.kept h3 fun k e e2 => own_two (by decide) k1 hs k (by rw [k2]; exact e) (by rw [hg, e2]), hm.trans ⟨h3.mono fun k _ e => .inr (.inr (by rw [hg, e])), fun k e => .inl e⟩, h3.size⟩
set_option maxRecDepth 100000 in
set_option maxHeartbeats 40000000 in
theorem wPut_new {r : BV} (h : WG w0 W B d G rs N) (hw0 : w0.heap.size ≤ W.heap.size) (hc : Cont G) (hbs : Bs w0 r.A r.b) (hrn : r.A = none → r.c = 0) (hl : r.b.length ≤ 2000) (ha : G.length ≤ 1000) (hN : N ≤ 1000) (h64 : nxtP G ≤ 100000) (hG : G = [] ∨ ∃ a p, G = a ++ [p] ∧ 2048 ≤ szP p ∧ szP p ≤ 1000000) :
    Calls Tryz.prog 32 #[.pointer (some ⟨B, 0, none⟩), .slice r.A r.b.length r.c] W (WPutPost w0 W B N d G rs r) := by
  obtain ⟨A, c, hsv, -⟩ := h.sv.form
  obtain ⟨Ar, cr, hrv, -, hrl, -⟩ := h.rv.read
  have c3 := h.wb.c3
  have c5 := h.wb.c5
  have c4 := h.wb.c4
  have fz4 := h.wb.fz 4
  obtain ⟨n, hn⟩ : ∃ n, n = G.length := ⟨_, rfl⟩
  obtain ⟨lr0, hlr0⟩ : ∃ l, l = rs.length := ⟨_, rfl⟩
  obtain ⟨lr, hlr⟩ : ∃ lr, lr = r.b.length := ⟨_, rfl⟩
  obtain ⟨nx, hnx⟩ : ∃ nx, nx = nxtP G := ⟨_, rfl⟩
  have hcond : ((n : Int) == 0) = true ∨ ∃ s k z : Nat, A = some ⟨s, 0, none⟩ ∧ ((n : Int) == 0) = false ∧ (n : Int) - 1 = (k : Int) ∧ k < n ∧ W.cell? ⟨s, k * 2 + 1, none⟩ = some (.int .i64 (z : Nat)) ∧ 2048 ≤ z := by
    rcases hG with rfl | ⟨a, p, rfl, hp, -⟩
    · left; rw [hn]; rfl
    · obtain ⟨s, c', hsv', -, hcell⟩ := h.sv.cells (by simp)
      rw [hsv] at hsv'
      simp only [Value.slice.injEq, true_and] at hsv'
      have hn2 : n = a.length + 1 := by rw [hn]; simp
      exact .inr ⟨s, a.length, szP p, hsv'.1, by simp; omega, by omega, by omega, (hcell a.length p (by simp)).2, hp⟩
  rw [hrv, List.length_map, ← hlr0] at c3
  rw [hsv, ← hn] at c5
  rw [← hlr] at hl ⊢
  have hsafe : lr0 = putSafe G d.safe := by
    rw [hlr0, h.len]
    rcases hG with rfl | ⟨a, p, rfl, hp, -⟩
    · rfl
    · rw [putSafe_snoc, if_pos hp]
  have hput : logPut G r.b = G ++ [(nx, [r.b])] := by
    rcases hG with rfl | ⟨a, p, rfl, hp, -⟩
    · rw [hnx]; rfl
    · rw [logPut_snoc, if_pos hp, hnx, nxtP_snoc]
  have h2 := h.put0 4 (.int .i64 (lr0 : Nat)) { d with safe := lr0 } rfl rfl rfl rfl
  obtain ⟨W2, hW2⟩ : ∃ W2, W2 = W.setCell ⟨B, 4, none⟩ (.int .i64 (lr0 : Nat)) := ⟨_, rfl⟩
  rw [← hW2] at h2
  have H2 := Lib.hid h2.1
  have M2 := Lib.hid h2.2
  have HNx : Hid (∀ W', Kept (fun _ => False) W2 W' → Calls Tryz.prog 31 #[.pointer (some ⟨B, 0, none⟩)] W' fun e w' => e = .returned (.int .u64 (nx : Nat)) ∧ Kept (fun _ => False) W' w') := Lib.hid fun W' hW' => by rw [hnx]; exact wNext_kept (h2.1.stay hW') hc (by omega)
  have HSafe := Lib.hid hsafe
  have HPut := Lib.hid hput
  have Hn := Lib.hid hn
  have Hsv : Hid (d.sv = .slice A n c) := Lib.hid (by rw [hsv, hn])
  have HW2 := Lib.hid hW2
  have Hrv : Hid (d.rv = .slice Ar lr0 cr) := Lib.hid (by rw [hrv, List.length_map, hlr0])
  have zw0 : IntKind.i64.wrap (16 : Int) = 16 := by decide
  have n9 : n ≤ 1000 := by omega
  have hsz2 : w0.heap.size ≤ W2.heap.size := Nat.le_trans hw0 h2.2.kept.size
  have Hsz := Lib.hid hsz2
  have Hlr := Lib.hid hlr
  have Hnx := Lib.hid hnx
  have Hbs := Lib.hid hbs
  have HAll : Hid (rs.map BV.b ++ [r.b] = allR (G ++ [(nx, [r.b])])) := Lib.hid (by rw [h.all, allR_append]; simp [allR])
  have HFst : Hid (d.first = fstP (G ++ [(nx, [r.b])])) := Lib.hid (by
    rw [h.fst]
    rcases hG with rfl | ⟨a, p, rfl, -⟩
    · rw [hnx]; simp [fstP, nxtP]
    · cases a <;> simp [fstP])
  obtain ⟨m, hm⟩ : ∃ m, m = n + 1 := ⟨_, rfl⟩
  have m1 : (n : Int) + 1 = (m : Int) := by omega
  have m2 : (m : Int) - 1 = (n : Int) := by omega
  have Hm := Lib.hid hm
  have nw : IntKind.i64.wrap ((n : Nat) : Int) = (n : Int) := by rw [IntKind.wrap_i64]; omega
  have mw : IntKind.i64.wrap ((m : Nat) : Int) = (m : Int) := by rw [IntKind.wrap_i64]; omega
  obtain ⟨z2, hz2⟩ : ∃ z2, z2 = 16 + lr := ⟨_, rfl⟩
  have i4 : (16 : Int) + (lr : Int) = (z2 : Int) := by omega
  have zw2 : IntKind.i64.wrap ((z2 : Nat) : Int) = (z2 : Int) := by rw [IntKind.wrap_i64]; omega
  have HZ : Hid (szP (nx, [r.b]) = z2) := Lib.hid (by rw [szP_eq, hz2, hlr]; simp [sumR])
  have x9 : n < m := by omega
  have x9i : (n : Int) < (m : Int) := by omega
  have d5 := h2.1.wb.c5
  have hcx := hcond
  have HSg : Hid (W2.ownsRow w0.heap.size 103 2 (.slice A n c) n (cellsS G)) := Lib.hid (by have := h2.1.sv; rw [show ({ d with safe := lr0 } : Wd).sv = .slice A n c by rw [← Hsv.out]] at this; unfold SegAt at this; rwa [← hn] at this)
  have HQ : Hid (∀ W', Kept (fun k => (Value.slice A n c).ownBlock = some k) W2 W' → WB W' B { d with safe := lr0 }) := Lib.hid fun W' hW' => h2.1.wb.kept hW' fun e => h2.1.nB.2.1 B (by rw [show ({ d with safe := lr0 } : Wd).sv = .slice A n c by rw [← Hsv.out]]; exact e) rfl
  clear h hw0 hc hbs hG hsv hrv hrl hn hlr0 hlr hnx hsafe hput h2 h64 ha hm hz2 hsz2 hcond
  rw [show ({ d with safe := lr0 } : Wd).sv = d.sv from rfl, Hsv.out] at d5
  go_enter Tryz.func32, Tryz.ntmps32
  rcases hcx with q1 | ⟨s, k, z, rfl, q1, q2, q3, q4, q5⟩
  all_goals
    go_upto_region 3 with fail
    rw [← hW2]
    clear hW2 c3 c4 c5 fz4
  all_goals
    go_region_law (first
      | (refine step_append_e elemSg rfl _ _ rfl w0.heap.size (.slice _ n c) n (cellsS G) rfl (own_kept HSg.out (HK4.out.alloc _) (by simp)) _ 1 1 [.int .u64 (nx : Nat), .int .i64 0] rfl (cs_new _ _ _) rfl (by simp [Value.oneCell']) (fun e => by cases e) (by omega) (Nat.le_trans (Nat.le_trans Hsz.out HK4.out.size) ((Kept.refl (fun _ => False) _).alloc _).size) ?_; intro v5 w5 hown hgrow; obtain ⟨A5, k5, rfl⟩ := own_slice hown; have HO5 := Lib.hid hown; have HG5 := Lib.hid hgrow; have hb5 := HQ.out w5 (((HK4.out.alloc _).mono fun _ _ e => False.elim e).trans' hgrow.kept); have HB5 := Lib.hid hb5; have f5 := hb5.fz 5; have g5 := hb5.c5; clear hown hgrow hb5)
      | (go_simp; go_at_call 31; refine (HNx.out _ (by first | exact Kept.refl _ _ | exact (Kept.refl _ _).drew)).mono ?_; rintro e w4 ⟨rfl, hk4⟩; have HK4 : Hid (Kept (fun _ => False) W2 w4) := (by first | exact Lib.hid hk4 | exact Lib.hid ((Kept.refl (fun _ => False) _).drew.trans' hk4)); have d5k := HK4.out.cell d5 (by simp); have d5a := (HK4.out.alloc (.cells #[.int .u64 (nx : Nat), .int .i64 0] 103)).cell d5 (by simp); clear hk4))
  all_goals
    obtain ⟨W6, hW6⟩ : ∃ W6, W6 = w5.setCell ⟨B, 5, none⟩ (.slice A5 (n + 1) k5) := ⟨_, rfl⟩
    rw [← hW6]
    rw [← Hm.out] at HO5 HG5 hW6 ⊢
    have HE6 := Lib.hid (put_seg H2.out M2.out Hsv.out HK4.out HO5.out HG5.out HB5.out Hn.out Hm.out hW6)
    obtain ⟨s5, e5, hcell⟩ := HE6.out.2.2.2.2
    subst e5
    have b6 := HE6.out.1
    have c5n := b6.c5
    have c3n := b6.c3
    have y1 := hcell
    have fz1 : W6.frozen? ⟨s5, n * 2 + 1, none⟩ = false := own_fz HE6.out.2.1 (g := s5) rfl _
    clear f5 g5 hW6 b6 hcell d5k d5a d5
    go_upto_region 5 with fail
    go_region_law (fail)
  all_goals
    obtain ⟨W1, hW1⟩ : ∃ W1, W1 = (W6.setCell ⟨s5, n * 2 + 1, none⟩ (.int .i64 (z2 : Nat))).drew := ⟨_, rfl⟩
    rw [← hW1]
    have HE1 := Lib.hid (put_sz HE6.out.1 HE6.out.2.1 HE6.out.2.2.1 HE6.out.2.2.2.1 Hn.out HZ.out rfl hW1)
    have d3 := HE1.out.1.c3
    rw [show ({ d with safe := lr0, sv := Value.slice (some ⟨s5, 0, none⟩) m k5 } : Wd).rv = d.rv from rfl, Hrv.out] at d3
    have HZ9 : Hid (w0.heap.size ≤ W1.heap.size) := Lib.hid (Nat.le_trans (Nat.le_trans (H2.out.hB) (Nat.le_of_lt HE6.out.1.lt)) HE1.out.2.2.2.2)
    clear hW1 c5n c3n y1 fz1
    go_wp2_with (at_builtin; refine wpList_append_s elemBs rfl _ _ rfl w0.heap.size d.rv (rs.map BV.val) N (by rw [Hrv.out]; rfl) (HE1.out.2.2.1.kept ((Kept.refl (fun _ => False) W1).alloc _) (by simp)) _ 1 1 [.slice r.A lr r.c] rfl (cs_new _ _ _) rfl (by simp [Value.oneCell']) (by omega) (Nat.le_trans HZ9.out ((Kept.refl (fun _ => False) W1).alloc _).size) ?_; intro v8 w8 hR8 hg8; obtain ⟨A8, c8, e9, -, -, -⟩ := hR8.read; obtain ⟨l8, h9⟩ : ∃ l, l = (rs.map BV.val ++ [Value.slice r.A lr r.c]).length := ⟨_, rfl⟩; rw [← h9] at e9; subst e9; clear h9; have HR8 := Lib.hid hR8; have HG8 := Lib.hid hg8; have hb8 := HE1.out.1.kept ((((Kept.refl (fun _ => False) W1).alloc _).mono fun _ _ e => False.elim e).trans' hg8.kept) (fun e => H2.out.nB.1 B e rfl); have f8 := hb8.fz 3; have g8 := hb8.c3; clear hR8 hg8 hb8)
    go_end0
    have hR := HR8.out
    have e8 : Value.slice r.A lr r.c = r.val := by rw [Hlr.out]; rfl
    rw [e8] at hR
    have hE := put_end HE1.out.1 HE1.out.2.2.1 HE1.out.2.1 hR HG8.out HAll.out HFst.out H2.out.src Hbs.out H2.out.hB
    exact ⟨rfl, _, by rw [HPut.out]; exact hE.1, HE1.out.2.2.2.1.trans hE.2, HSafe.out, ⟨rfl, rfl, rfl, rfl, rfl, rfl⟩⟩
theorem wPut_any {r : BV} (h : WG w0 W B d G rs N) (hw0 : w0.heap.size ≤ W.heap.size) (hc : Cont G) (hbs : Bs w0 r.A r.b) (hrn : r.A = none → r.c = 0) (hl : r.b.length ≤ 2000) (ha : G.length ≤ 1000) (hN : N ≤ 1000) (h64 : nxtP G ≤ 100000) (hsz : ∀ p ∈ G, szP p ≤ 1000000) :
    Calls Tryz.prog 32 #[.pointer (some ⟨B, 0, none⟩), .slice r.A r.b.length r.c] W (WPutPost w0 W B N d G rs r) := by
  rcases List.eq_nil_or_concat G with rfl | ⟨a, p, rfl⟩
  · exact wPut_new h hw0 hc hbs hrn hl ha hN h64 (.inl rfl)
  · rw [List.concat_eq_append] at *
    rcases Nat.lt_or_ge (szP p) 2048 with h9 | h9
    · exact wPut_old h hw0 hc hbs hrn hl (by rw [List.length_append] at ha; omega) hN h9
    · exact wPut_new h hw0 hc hbs hrn hl ha hN h64 (.inr ⟨a, p, rfl, h9, hsz p (by simp)⟩)
end
end Go.Proofs.YtibalgfejfjndaaGreatDoor
end
