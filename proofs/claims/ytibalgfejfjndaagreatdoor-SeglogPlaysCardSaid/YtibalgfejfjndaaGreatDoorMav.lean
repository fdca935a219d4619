import Derived.Test.YtibalgfejfjndaaGreatDoorMau
/-! SeglogPlays' world: cut. -/
section
set_option linter.unusedVariables false
set_option linter.unusedSimpArgs false
namespace Go.Proofs.YtibalgfejfjndaaGreatDoor
open Go.RowKit
theorem cut_case {G : List Prt} {n j : Nat} (hc : Cont G) (hn : n ≤ (allR G).length) (hj : j ≤ G.length) (hJ : (logCut G n).length ≤ j) :
    (j = (logCut G n).length ∧ (j = 0 ∨ (∃ q, G[j - 1]? = some q ∧ 0 < j ∧ ¬ fstP G + n ≤ q.1) ∨ (j = 1 ∧ ∃ q, G[0]? = some q ∧ fstP G + n ≤ q.1 ∧ q.1 ≠ 0))) ∨
    ((logCut G n).length < j ∧ ∃ q, G[j - 1]? = some q ∧ fstP G + n ≤ q.1 ∧ (1 < j ∨ (j = 1 ∧ q.1 = 0))) := by
  rcases cut_spec hc hn with ⟨h1, h2, h3, h4⟩ | ⟨a, p, rest, m, h1, h2, h3, h4, h5, h6, h7⟩
  · rw [h1, List.length_nil]
    rcases Nat.eq_zero_or_pos j with rfl | h0
    · exact .inl ⟨rfl, .inl rfl⟩
    · obtain ⟨q, hq⟩ : ∃ q, G[j - 1]? = some q := ⟨_, List.getElem?_eq_getElem (by omega)⟩
      obtain ⟨h8, h9⟩ := h2 (j - 1) q hq
      exact .inr ⟨h0, q, hq, h8, by omega⟩
  · have hl : (logCut G n).length = a.length + 1 := by rw [h4]; simp
    rw [hl] at hJ ⊢
    rcases Nat.lt_or_ge (a.length + 1) j with h0 | h0
    · obtain ⟨q, hq⟩ : ∃ q, G[j - 1]? = some q := ⟨_, List.getElem?_eq_getElem (by omega)⟩
      exact .inr ⟨h0, q, hq, h6 (j - 1) q (by omega) hq, .inl (by omega)⟩
    · have hj1 : j = a.length + 1 := by omega
      have hp : G[j - 1]? = some p := by rw [h1, hj1, Nat.add_sub_cancel, List.getElem?_append_right (Nat.le_refl _)]; simp
      refine .inl ⟨hj1, .inr ?_⟩
      rcases h7 with h8 | ⟨rfl, h8, rfl⟩
      · exact .inl ⟨p, hp, by omega, by omega⟩
      · refine .inr ⟨by simpa using hj1, p, by rw [h1]; rfl, ?_, h8⟩
        simp [allR] at h2 h5
        omega
theorem cut_fewer {G : List Prt} {n : Nat} (hc : Cont G) (hn : n ≤ (allR G).length) : (logCut G n).length ≤ G.length := by
  rcases cut_spec hc hn with ⟨h1, -⟩ | ⟨a, p, rest, m, h1, -, -, h4, -⟩
  · rw [h1]; simp
  · rw [h4, h1]; simp
section
variable {w0 W : World} {B N : Nat} {d : Wd} {G : List Prt} {rs : List BV}
/-- How many segments the world has. -/
def segN (B : Nat) (W : World) : Nat := match W.cell? ⟨B, 5, none⟩ with
  | some (.slice _ n _) => n
  | _ => 0
/-- What is held while cut lets the last segments go. -/
def CutI (w0 W1 W : World) (B N : Nat) (d : Wd) (G : List Prt) (rs : List BV) (j : Nat) : Prop :=
  ∃ A c, WB W B { d with sv := .slice A j c } ∧ SegAt W w0.heap.size (.slice A j c) (G.take j) ∧ RowS W w0.heap.size 30 d.rv (rs.map BV.val) N ∧ Kept (fun k => k = B) W1 W ∧ j ≤ G.length ∧ ((Value.slice A j c).ownBlock = d.sv.ownBlock)
theorem sumR_app (a b : List (List UInt8)) : sumR (a ++ b) = sumR a + sumR b := by simp [sumR]
/-- So many bytes have those from i0 on ahead of x. -/
def sumX (l : List (List UInt8)) (i0 x : Nat) : Nat := sumR ((l.take x).drop i0)
theorem sumX_self (l : List (List UInt8)) (i0 : Nat) : sumX l i0 i0 = 0 := by
  unfold sumX; rw [List.drop_eq_nil_of_le (by rw [List.length_take]; omega)]; rfl
theorem sumX_more {l : List (List UInt8)} {i0 x : Nat} {b : List UInt8} (h : l[x]? = some b) (hi : i0 ≤ x) : sumX l i0 (x + 1) = sumX l i0 x + 16 + b.length := by
  have hx := (List.getElem?_eq_some_iff.1 h).1
  unfold sumX
  rw [List.take_add_one, h, Option.toList_some, List.drop_append_of_le_length (by rw [List.length_take]; omega), sumR_app]
  simp [sumR]; omega
theorem sumX_le {l : List (List UInt8)} (hl : ∀ b ∈ l, b.length ≤ 2000) (i0 x : Nat) : sumX l i0 x ≤ 2016 * x := by
  unfold sumX
  have h1 : ((l.take x).drop i0).length ≤ x := by rw [List.length_drop, List.length_take]; omega
  have h2 : ∀ b ∈ (l.take x).drop i0, b.length ≤ 2000 := fun b hb => hl b (List.mem_of_mem_take (List.mem_of_mem_drop hb))
  generalize (l.take x).drop i0 = q at h1 h2
  have h3 : sumR q ≤ 2016 * q.length := by
    clear h1
    induction q with
    | nil => simp [sumR]
    | cons b q ih =>
      have h5 := ih fun x hx => h2 x (List.mem_cons_of_mem _ hx)
      have h6 := h2 b List.mem_cons_self
      have e : sumR (b :: q) = 16 + b.length + sumR q := by simp [sumR]
      rw [e, List.length_cons]
      omega
  exact Nat.le_trans h3 (Nat.mul_le_mul_left _ h1)
theorem sumX_last {a rest : List Prt} {p : Prt} {m : Nat} (hm : m ≤ p.2.length) : sumX (allR (a ++ p :: rest)) (allR a).length ((allR a).length + m) = szP (p.1, p.2.take m) := by
  unfold sumX
  rw [szP_eq, allR_append, show allR (p :: rest) = p.2 ++ allR rest from rfl, List.take_append, List.take_of_length_le (Nat.le_add_right _ _), Nat.add_sub_cancel_left, List.take_append_of_le_length hm, List.drop_left]
theorem cut_wg {n L c : Nat} {A : Option Addr} {v5 : Value} {W' : World} (h : WG w0 W B d G rs N) (hc : Cont G) (hn : n ≤ (allR G).length) (hb : WB W' B { d with rv := .slice A n c, sv := v5 }) (hS : SegAt W' w0.heap.size v5 (logCut G n)) (hR : RowS W' w0.heap.size 30 (.slice A n c) ((rs.take n).map BV.val) N) : WG w0 W' B { d with rv := .slice A n c, sv := v5 } (logCut G n) (rs.take n) N :=
  ⟨hb, hR, hS, by rw [List.map_take, h.all, cut_all hc hn], by rw [cut_fst hc hn]; exact h.fst, fun r hr => h.src r (List.mem_of_mem_take hr), h.hB⟩
/-- The last segment is as long as what is left of it: the copy of the segments, set. -/
theorem cut_fin {n L c k5 j c10 g3 z : Nat} {A A5 : Option Addr} {W3 w10 : World} {a : List Prt} {p p' : Prt} (h : WG w0 W B d G rs N) (hc : Cont G) (hn : n ≤ (allR G).length) (hw0 : w0.heap.size ≤ W.heap.size) (hrv : d.rv = .slice A L c) (hb : WB W3 B { d with rv := .slice A n c, sv := .slice A5 j k5 })
    (hR : RowS W3 w0.heap.size 30 (.slice A n c) ((rs.take n).map BV.val) N) (hK : Kept (fun k => k = B) W W3) (hO : SegAt w10 w0.heap.size (.slice (some ⟨g3, 0, none⟩) j c10) (a ++ [p])) (hg : Grew W3 w10 (.slice none 0 0) (.slice (some ⟨g3, 0, none⟩) j c10)) (hcut : logCut G n = a ++ [p']) (hp : p'.1 = p.1) (hz : szP p' = z) :
    WG w0 ((w10.setCell ⟨B, 5, none⟩ (.slice (some ⟨g3, 0, none⟩) j c10)).setCell ⟨g3, a.length * 2 + 1, none⟩ (.int .i64 (z : Nat))) B { d with rv := .slice A n c, sv := .slice (some ⟨g3, 0, none⟩) j c10 } (logCut G n) (rs.take n) N ∧
    WMv w0 W B d ((w10.setCell ⟨B, 5, none⟩ (.slice (some ⟨g3, 0, none⟩) j c10)).setCell ⟨g3, a.length * 2 + 1, none⟩ (.int .i64 (z : Nat))) { d with rv := .slice A n c, sv := .slice (some ⟨g3, 0, none⟩) j c10 } := by
  have hk10 : Kept (fun _ => False) W3 w10 := hg.kept.mono fun k _ e => by cases e
  have hg3 : W3.heap.size ≤ g3 := by
    rcases hg with ⟨e, -⟩ | ⟨e, -⟩
    · cases e
    · simp only [Value.ownBlock, Option.some.injEq] at e; omega
  have hBl := hb.lt
  have hk11 := kF w10 B 5 (.slice (some ⟨g3, 0, none⟩) j c10)
  have hk12 := kF (w10.setCell ⟨B, 5, none⟩ (.slice (some ⟨g3, 0, none⟩) j c10)) g3 (a.length * 2 + 1) (.int .i64 (z : Nat))
  have hb11 : WB (w10.setCell ⟨B, 5, none⟩ (.slice (some ⟨g3, 0, none⟩) j c10)) B { d with rv := .slice A n c, sv := .slice (some ⟨g3, 0, none⟩) j c10 } := (hb.kept hk10 (by simp)).set 5 _ _ rfl
  have hb12 := hb11.kept hk12 (show ¬ B = g3 by omega)
  have hS11 : SegAt (w10.setCell ⟨B, 5, none⟩ (.slice (some ⟨g3, 0, none⟩) j c10)) w0.heap.size (.slice (some ⟨g3, 0, none⟩) j c10) (a ++ [p]) := own_kept hO hk11 fun k e e2 => by
    have : g3 = k := by simpa [Value.ownBlock] using e
    omega
  have hS12 := segs_last hS11 (s := g3) (p' := p') rfl hp
  rw [hz] at hS12
  have hnr : ∀ k, (Value.slice A n c).ownBlock = some k → k ≠ B ∧ k < W3.heap.size := fun k e => ⟨h.nB.1 k (by rw [hrv]; cases A with
      | none => cases e
      | some a => exact e), hR.lt k e⟩
  have hR12 := ((hR.kept hk10 (by simp)).kept hk11 fun k e => (hnr k e).1).kept hk12 fun k e e2 => by have := (hnr k e).2; omega
  refine ⟨cut_wg (L := L) h hc hn hb12 (by rw [hcut]; exact hS12) hR12, ⟨?_, fun k e => ?_⟩⟩
  · have h1 : Kept (fun k => k = B) W (w10.setCell ⟨B, 5, none⟩ (.slice (some ⟨g3, 0, none⟩) j c10)) := (hK.trans' (hk10.mono fun _ _ e => False.elim e)).trans' hk11
    exact (h1.mono fun k _ e => .inl e).trans hk12 fun i hi e => by
      have := hK.size
      omega
  · rcases e with e | e | e
    · exact .inl (.inl e)
    · refine .inl (.inr (.inl ?_))
      rw [hrv]
      cases A with
      | none => cases e
      | some a => exact e
    · have : g3 = k := by simpa [Value.ownBlock] using e
      have := hK.size
      exact .inr (by omega)
set_option maxRecDepth 100000 in
set_option maxHeartbeats 16000000 in
theorem wCut_any {n : Nat} (h : WG w0 W B d G rs N) (hw0 : w0.heap.size ≤ W.heap.size) (hc : Cont G) (hn : n ≤ rs.length) (ha : G.length ≤ 1000) (h64 : nxtP G ≤ 100000) (hl : ∀ r ∈ rs, r.b.length ≤ 2000) :
    Calls Tryz.prog 49 #[.pointer (some ⟨B, 0, none⟩), .int .i64 (n : Nat)] W fun e w' => e = .returned (.tuple #[]) ∧ ∃ d', WG w0 w' B d' (logCut G n) (rs.take n) N ∧ WMv w0 W B d w' d' ∧ d'.safe = d.safe ∧ d.Like d' := by
  have hlen := h.len
  have hspec := cut_spec hc (n := n) (by omega)
  obtain ⟨A, c, hrv, hrc, hR⟩ := h.rv.take n (by rw [List.length_map]; exact hn)
  rw [List.length_map] at hrv hrc
  obtain ⟨L, hL⟩ : ∃ L, L = rs.length := ⟨_, rfl⟩
  rw [← hL] at hrv hrc hn
  have c3 := h.wb.c3
  rw [hrv] at c3
  have fz3 := h.wb.fz 3
  have hs1 := fun W => slice_toBs W A L c n hn hrc
  have HStart : Hid (CutI w0 W (W.setCell ⟨B, 3, none⟩ (.slice A n c)) B N { d with rv := .slice A n c } G (rs.take n) G.length) := Lib.hid (by
    obtain ⟨A5, c5, hsv, hlc, hS⟩ := h.sv.pre G.length (Nat.le_refl _)
    have hk := kF W B 3 (.slice A n c)
    have hnb := h.nB
    refine ⟨A5, c5, h.wb.set 3 _ _ (by unfold Wd.cells; rw [hsv]; rfl), own_kept hS hk fun k e => hnb.2.1 k (by rw [hsv]; exact e), ?_, hk, Nat.le_refl _, by rw [hsv]⟩
    rw [List.map_take]
    exact hR.kept hk fun k e => hnb.1 k (by rw [hrv]; cases A with
      | none => cases e
      | some a => exact e))
  have H := Lib.hid h
  have HR := Lib.hid hR
  have HCs : Hid (∀ j, j ≤ G.length → (logCut G n).length ≤ j → _) := Lib.hid fun j hj hJ => cut_case hc (n := n) (by omega) hj hJ
  have HCl : Hid ((logCut G n).length ≤ G.length) := Lib.hid (cut_fewer hc (by omega))
  have HSp := Lib.hid hspec
  have HFs : Hid (d.first = fstP G) := Lib.hid h.fst
  have hfirst : d.first + n ≤ 100000 := by rw [h.fst]; have := nxtP_eq hc; omega
  have Ha := Lib.hid ha
  have HL := Lib.hid hL
  have hn9 : n ≤ L := hn
  have hL9 : L ≤ 100000 := by
    have := nxtP_eq hc
    omega
  have Hc := Lib.hid hc
  have Hw0 := Lib.hid hw0
  have Hrv := Lib.hid hrv
  have Hlen : Hid (n ≤ (allR G).length) := Lib.hid (by omega)
  have Hl9 : Hid (∀ b ∈ allR G, b.length ≤ 2000) := Lib.hid fun b hb => by
    rw [← h.all] at hb
    obtain ⟨r, hr, rfl⟩ := List.mem_map.1 hb
    exact hl r hr
  clear h hw0 hc hn ha h64 hl hlen hspec hrv hrc hR hL
  go_enter Tryz.func49, Tryz.ntmps49
  go_wp2_with fail
  go_loopw [16] (fun _ wr => ∃ j, Hid (CutI w0 W wr B N { d with rv := .slice A n c } G (rs.take n) j) ∧ Hid ((logCut G n).length ≤ j)) (fun _ wr => segN B wr)
  case' atStart => exact ⟨_, HStart, HCl⟩
  obtain ⟨j, hI, hJ⟩ := hrel
  obtain ⟨A5, k5, hb, hS, hR, hK, hj, hbl⟩ := hI.out
  have c5 := hb.c5
  have c2 := hb.c2
  obtain ⟨f, hf⟩ : ∃ f, f = d.first := ⟨_, rfl⟩
  rw [show ({ ({ d with rv := Value.slice A n c } : Wd) with sv := Value.slice A5 j k5 } : Wd).first = f from hf.symm] at c2
  have HNx : Hid (∀ a, Calls Tryz.prog 31 #[.pointer (some ⟨B, 0, none⟩)] (wr.drewN a) fun e w' => e = .returned (.int .u64 ((f + n : Nat) : Int)) ∧ ∃ m, w' = (wr.drewN a).drewN m) := Lib.hid fun a => by
    have hk : Kept (fun _ => False) wr (wr.drewN a) := (Kept.refl _ wr).drewN a
    have := wNext_raw (hb.kept hk (by simp)) (hR.kept hk (by simp)) (by rw [List.length_take]; show d.first + _ < _; omega)
    rw [List.length_take, Nat.min_eq_left (by have := HL.out; omega)] at this
    rw [hf]
    exact this
  have HB := Lib.hid hb
  have HS := Lib.hid hS
  have hjG := Lib.hid hj
  have HR9 := Lib.hid hR
  have HK := Lib.hid hK
  have HBl := Lib.hid hbl
  have hcs := HCs.out j hj hJ.out
  rw [← HFs.out, ← hf] at hcs
  have j9 : j ≤ 1000 := Nat.le_trans hj Ha.out
  obtain ⟨nx, hnx⟩ : ∃ nx, nx = f + n := ⟨_, rfl⟩
  rw [← hnx] at HNx hcs
  have hcell : ∀ q, G[j - 1]? = some q → 0 < j → ∃ s, A5 = some ⟨s, 0, none⟩ ∧ wr.cell? ⟨s, (j - 1) * 2, none⟩ = some (.int .u64 (q.1 : Nat)) ∧ ∀ q0, G[0]? = some q0 → wr.cell? ⟨s, 0, none⟩ = some (.int .u64 (q0.1 : Nat)) := fun q hq h0 => by
    have hlt : (G.take j).length = j := by rw [List.length_take]; omega
    obtain ⟨s, c', e, -, hc'⟩ := hS.cells (fun e => by rw [e] at hlt; simp at hlt; omega)
    simp only [Value.slice.injEq] at e
    refine ⟨s, e.1, (hc' (j - 1) q (by rw [List.getElem?_take_of_lt (by omega)]; exact hq)).1, fun q0 hq0 => ?_⟩
    have := (hc' 0 q0 (by rw [List.getElem?_take_of_lt (by omega)]; exact hq0)).1
    rwa [Nat.zero_mul] at this
  have Hf := Lib.hid hf
  have Hnx := Lib.hid hnx
  have c3r : wr.cell? ⟨B, 3, none⟩ = some (.slice A n c) := hb.c3
  clear hb hS hR hK hbl hI hj hf hnx
  rcases hcs with ⟨hjJ, hst⟩ | ⟨hjJ, q, hq, hq1, hq2⟩
  · have hgo : (j = 0) ∨ ∃ s k q1 : Nat, A5 = some ⟨s, 0, none⟩ ∧ (j : Int) - 1 = (k : Int) ∧ k < j ∧ wr.cell? ⟨s, k * 2, none⟩ = some (.int .u64 (q1 : Nat)) ∧ Hid (j = k + 1 ∧ ∃ q, G[k]? = some q ∧ q1 = q.1) ∧ (¬ (nx : Int) ≤ (q1 : Int) ∨ ((nx : Int) ≤ (q1 : Int) ∧ ¬ (1 : Int) < (j : Int) ∧ wr.cell? ⟨s, 0, none⟩ = some (.int .u64 (q1 : Nat)) ∧ ((q1 : Int) == 0) = false)) := by
      rcases hst with h9 | ⟨q, hq, h8, h9⟩ | ⟨h8, q, hq, h9, h10⟩
      · exact .inl h9
      · obtain ⟨s, e1, e2, -⟩ := hcell q hq h8
        exact .inr ⟨s, j - 1, q.1, e1, by omega, by omega, e2, Lib.hid ⟨by omega, q, hq, rfl⟩, .inl (by omega)⟩
      · obtain ⟨s, e1, e2, e3⟩ := hcell q (by rw [h8]; exact hq) (by omega)
        exact .inr ⟨s, j - 1, q.1, e1, by omega, by omega, e2, Lib.hid ⟨by omega, q, (by rw [h8]; exact hq), rfl⟩, .inr ⟨by omega, by omega, e3 q hq, by simp; omega⟩⟩
    have HJJ := Lib.hid hjJ
    clear hcell hst hjJ
    have x5 : ∀ k : Nat, k < j → IntKind.i64.wrap ((k : Nat) : Int) = (k : Int) := fun k hk => by rw [IntKind.wrap_i64]; omega
    rcases hgo with z0 | ⟨s, k, q1, rfl, i1, i2, y1, hQ, hz⟩
    · subst z0
      have HEnd : Hid (∀ W', Kept (fun _ => False) wr W' → WG w0 W' B { d with rv := .slice A n c, sv := .slice A5 0 k5 } (logCut G n) (rs.take n) N ∧ WMv w0 W B d W' { d with rv := .slice A n c, sv := .slice A5 0 k5 }) := Lib.hid fun W' hk' => by
        have h0 : logCut G n = [] := List.eq_nil_of_length_eq_zero HJJ.out.symm
        refine ⟨cut_wg (L := L) H.out Hc.out Hlen.out (HB.out.kept hk' (by simp)) ?_ (HR9.out.kept hk' (by simp)), ⟨(HK.out.trans' (hk'.mono fun _ _ e => False.elim e)).mono fun k _ e => .inl e, fun k e => .inl ?_⟩⟩
        · rw [h0]
          have := own_kept HS.out hk' (by simp)
          rwa [List.take_zero] at this
        · rcases e with e | e | e
          · exact .inl e
          · refine .inr (.inl ?_)
            rw [Hrv.out]
            cases A with
            | none => cases e
            | some a => exact e
          · exact .inr (.inr (by rw [← HBl.out]; exact e))
      clear x5
      go_wp2_with fail
      go_quiet (fail)
      go_wp2_with fail
      go_end0
      exact ⟨rfl, _, (HEnd.out _ ((Kept.refl (fun _ => False) wr).drewN _)).1, (HEnd.out _ ((Kept.refl (fun _ => False) wr).drewN _)).2, rfl, ⟨rfl, rfl, rfl, rfl, rfl, rfl⟩⟩
    · have w5 := x5 k i2
      have i3 : (k : Int) < (j : Int) := by omega
      have i4 : (0 : Int) < (j : Int) := by omega
      have i5 : 0 < j := by omega
      have hT : ∃ a p rest m i0, G = a ++ p :: rest ∧ a.length = k ∧ q1 = f + i0 ∧ i0 = (allR a).length ∧ n = i0 + m ∧ m ≤ p.2.length ∧ logCut G n = a ++ [(p.1, p.2.take m)] := by
        obtain ⟨hjk, q, hq, hq1⟩ := hQ.out
        rcases HSp.out with ⟨h1, -⟩ | ⟨a, p, rest, m, h1, h2, h3, h4, h5, -⟩
        · exfalso
          have := HJJ.out
          rw [h1, List.length_nil] at this
          omega
        · have hk2 : a.length = k := by
            have := HJJ.out
            rw [h4, List.length_append, List.length_singleton] at this
            omega
          have hpq : q = p := by
            rw [h1, ← hk2, List.getElem?_append_right (Nat.le_refl _)] at hq
            simpa using hq.symm
          refine ⟨a, p, rest, m, (allR a).length, h1, hk2, ?_, rfl, h2, h3, h4⟩
          rw [hq1, hpq, h5, Hf.out, HFs.out]
      obtain ⟨a, p, rest, m, i0, h1, h2, h3, h4, h5, h6, h7⟩ := hT
      have HT1 := Lib.hid h1
      have HT2 := Lib.hid h2
      have HT4 := Lib.hid h4
      have HT5 := Lib.hid h5
      have HT6 := Lib.hid h6
      have HT7 := Lib.hid h7
      have i0n : i0 ≤ n := by omega
      have wd1 : IntKind.u64.wrap ((q1 : Int) - (f : Int)) = (i0 : Int) := by rw [IntKind.wrap_u64]; omega
      have wd2 : IntKind.i64.wrap ((i0 : Nat) : Int) = (i0 : Int) := by rw [IntKind.wrap_i64]; omega
      clear x5 h1 h2 h3 h4 h5 h6 h7
      have hz : ¬ (nx : Int) ≤ (q1 : Int) ∨ ((nx : Int) ≤ (q1 : Int) ∧ ¬ (1 : Int) < (j : Int) ∧ wr.cell? ⟨s, 0, none⟩ = some (.int .u64 (q1 : Nat)) ∧ ¬ (q1 : Int) = 0 ∧ nx ≤ q1 ∧ 0 < q1) := by
        rcases hz with a1 | ⟨a1, a2, a3, a4⟩
        · exact .inl a1
        · have a5 : ¬ (q1 : Int) = 0 := by simpa using a4
          exact .inr ⟨a1, a2, a3, a5, by omega, by omega⟩
      have hzn : ¬ (nx : Int) ≤ (q1 : Int) → ¬ nx ≤ q1 := fun h => by omega
      rcases hz with z1 | ⟨z1, z2, z3, z4, z5, z6⟩
      case' inl => have z2 := hzn z1
      case' inr => have z7 : ¬ q1 = 0 := by omega
      case' inr => have z8 : ((q1 : Int) == 0) = false := by simp; omega
      all_goals
        clear hzn
        go_wp2_with fail
        go_quiet ((go_at_call 31; exact Calls.quiet_of (HNx.out _)))
        go_wp2_with fail
      all_goals
        obtain ⟨W2, hW2⟩ : ∃ W2, W2 = wr.drewN nq := ⟨_, rfl⟩
        have hk2 : Kept (fun _ => False) wr W2 := by rw [hW2]; exact (Kept.refl _ wr).drewN _
        rw [← hW2]
        clear hW2
        have e5 := hk2.cell c5 (by simp)
        have e2 := hk2.cell c2 (by simp)
        have u1 := hk2.cell y1 (by simp)
        have HK2 := Lib.hid hk2
        clear hk2
        go_quiet (fail)
        go_wp2_with fail
      all_goals
        obtain ⟨W3, hW3⟩ : ∃ W3, W3 = W2.drewN nq := ⟨_, rfl⟩
        have hk3 : Kept (fun _ => False) wr W3 := by rw [hW3]; exact HK2.out.drewN _
        rw [← hW3]
        clear hW3
        have c3w := hk3.cell c3r (by simp)
        have c5w := hk3.cell c5 (by simp)
        have HK3 := Lib.hid hk3
        clear hk3 e5 e2 u1
        have HR3 : Hid (∀ (x : Nat) (r : BV), rs[x]? = some r → x < n → ∃ ad, A = some ad ∧ wr.cell? (ad.add x) = some (.slice r.A r.b.length r.c)) := Lib.hid fun x r hr hx => by
          obtain ⟨A', c', e1, -, -, e3⟩ := HR9.out.read
          simp only [Value.slice.injEq] at e1
          obtain ⟨ad, e4, e5⟩ := e3 x r.val (by rw [List.getElem?_map, List.getElem?_take_of_lt hx, hr]; rfl)
          exact ⟨ad, e1.1.trans e4, e5⟩
        have hi0 : sumX (allR G) i0 i0 = 0 := sumX_self _ _
        go_loopw [5, 6] (fun sv i wx => ∃ x : Nat, i0 ≤ x ∧ x ≤ n ∧ i = .int .i64 (x : Nat) ∧ sv = .int .i64 ((sumX (allR G) i0 x : Nat) : Int) ∧ Hid (Kept (fun _ => False) W3 wx)) (fun _ i _ => n - (intOf i).toNat)
        case' atStart => exact ⟨i0, Nat.le_refl _, i0n, rfl, by rw [hi0]; rfl, Lib.hid (Kept.refl _ _)⟩
        obtain ⟨x, hx0, hxn, rfl, rfl, hK4⟩ := hrel
        clear hi0
        have c3x := hK4.out.cell c3w (by simp)
        have hle := sumX_le Hl9.out i0 x
        obtain ⟨S0, hS0⟩ : ∃ S0, S0 = sumX (allR G) i0 x := ⟨_, rfl⟩
        rw [← hS0] at hle ⊢
        have hS9 : S0 ≤ 300000000 := by omega
        by_cases hgo : x < n
        · have hgo9 : (x : Int) < (n : Int) := by omega
          obtain ⟨r, hr⟩ : ∃ r, rs[x]? = some r := ⟨_, List.getElem?_eq_getElem (by have := HL.out; omega)⟩
          obtain ⟨ad, rfl, hcr⟩ := HR3.out x r hr hgo
          have y9 := (HK3.out.trans' hK4.out).cell hcr (by simp)
          obtain ⟨ln, hln⟩ : ∃ ln, ln = r.b.length := ⟨_, rfl⟩
          have hab : (allR G)[x]? = some r.b := by rw [← H.out.all, List.getElem?_map, hr]; rfl
          have hln9 : ln ≤ 2000 := by rw [hln]; exact Hl9.out r.b (List.mem_of_getElem? hab)
          have HSum : Hid (sumX (allR G) i0 (x + 1) = S0 + 16 + ln) := Lib.hid (by rw [sumX_more hab hx0, hS0, hln])
          rw [← hln] at y9
          clear hcr hr hln hab hS0 hle
          go_wp2_with fail
          go_roundw
          case rel => exact ⟨x + 1, by omega, by omega, by go_num, by rw [HSum.out]; go_num, hK4⟩
          case measure => simp [intOf]; omega
        · have hgo9 : ¬ (x : Int) < (n : Int) := by omega
          have HSz : Hid (szP (p.1, p.2.take m) = S0) := Lib.hid (by
            rw [hS0, show x = n by omega, HT1.out, HT4.out, HT5.out, HT4.out]
            exact (sumX_last HT6.out).symm)
          clear hS0 hle
          have c5x := hK4.out.cell c5w (by simp)
          have hk5 := HK3.out.trans' hK4.out
          obtain ⟨AS, cS, hvS, hcS, -, hlS, -⟩ := Cs.of_row (own_kept HS.out hk5 (by simp))
          have hlj : (G.take j).length = j := by rw [List.length_take]; have := hjG.out; omega
          rw [hlj] at hvS hlS
          simp only [Value.slice.injEq, true_and] at hvS
          obtain ⟨rfl, rfl⟩ := hvS
          obtain ⟨W5, hW5⟩ : ∃ W5, W5 = wr := ⟨_, rfl⟩
          rw [← hW5] at hcS hk5 c5x c3x ⊢
          clear hW5
          have HC : Hid (Cs W5 (some ⟨s, 0, none⟩) (cellsS (G.take j)) ∧ (cellsS (G.take j)).length = j * 2 ∧ w0.heap.size ≤ W5.heap.size) := Lib.hid ⟨hcS, by rw [cellsS_len, hlj], Nat.le_trans Hw0.out (Nat.le_trans HK.out.size hk5.size)⟩
          have HK5 := Lib.hid hk5
          have HLj := Lib.hid hlj
          have HFz5 : Hid (∀ W', Kept (fun _ => False) W5 W' → W'.frozen? ⟨B, 5, none⟩ = false ∧ W'.cell? ⟨B, 5, none⟩ = some (.slice (some ⟨s, 0, none⟩) j k5)) := Lib.hid fun W' h' => ⟨(HB.out.kept (HK5.out.trans' h') (by simp)).fz 5, (HB.out.kept (HK5.out.trans' h') (by simp)).c5⟩
          have HTk : Hid (G.take j = a ++ [p]) := Lib.hid (by
            rw [HT1.out, List.take_append, List.take_of_length_le (by have := HT2.out; omega), show j - a.length = 1 by have := HT2.out; have := (hQ.out).1; omega]
            rfl)
          clear hcS hk5 hlj
          go_upto_region 11 with (at_builtin; refine wpList_append_e elemSg rfl _ _ rfl w0.heap.size (.slice none 0 0) 0 [] rfl (World.ownsRow_nil _ _ _ _) (some ⟨s, 0, none⟩) j k5 (cellsS (G.take j)) rfl HC.out.1 HC.out.2.1 (cellsS_one _) (fun e => by cases e) (by omega) HC.out.2.2 ?_; intro v2 w2 hown hgrow; rw [Nat.zero_add, List.nil_append] at hown; obtain ⟨A2, k2, rfl⟩ := own_slice hown; have HO2 := Lib.hid hown; have HG2 := Lib.hid hgrow; have f5 := (HFz5.out _ (hgrow.kept.mono fun k _ e => by cases e)).1; have g5 := (HFz5.out _ (hgrow.kept.mono fun k _ e => by cases e)).2; clear hown hgrow)
          have hO2 : SegAt w2 w0.heap.size (.slice A2 j k2) (a ++ [p]) := by
            have := HO2.out
            rw [HTk.out] at this
            unfold SegAt
            rw [← HTk.out, HLj.out, HTk.out]
            exact this
          obtain ⟨g3, k3, e3, -, hcell3⟩ := hO2.cells (by simp)
          simp only [Value.slice.injEq] at e3
          obtain ⟨rfl, -, rfl⟩ := e3
          have hak : a.length = k := HT2.out
          have y5 := (hcell3 k p (by rw [← hak]; simp)).2
          have hg3 : W5.heap.size ≤ g3 := by
            rcases HG2.out with ⟨e, -⟩ | ⟨e, -⟩
            · cases e
            · simp only [Value.ownBlock, Option.some.injEq] at e; omega
          have hBl : B < W5.heap.size := (HB.out.kept HK5.out (by simp)).lt
          have hset := kF w2 B 5 (.slice (some ⟨g3, 0, none⟩) j k2)
          have y6 := hset.cell y5 (show ¬ g3 = B by omega)
          have fz6 : (w2.setCell ⟨B, 5, none⟩ (.slice (some ⟨g3, 0, none⟩) j k2)).frozen? ⟨g3, k * 2 + 1, none⟩ = false := own_fz (own_kept hO2 hset fun q e e2 => by
            have : g3 = q := by simpa [Value.ownBlock] using e
            omega) rfl _
          obtain ⟨W6, hW6⟩ : ∃ W6, W6 = w2.setCell ⟨B, 5, none⟩ (.slice (some ⟨g3, 0, none⟩) j k2) := ⟨_, rfl⟩
          have z5' : W6.cell? ⟨B, 5, none⟩ = some (.slice (some ⟨g3, 0, none⟩) j k2) := by
            rw [hW6]
            exact ((HB.out.kept (HK5.out.trans' (HG2.out.kept.mono fun k _ e => by cases e)) (by simp)).set 5 _ { d with rv := .slice A n c, sv := .slice (some ⟨g3, 0, none⟩) j k2 } rfl).c5
          rw [← hW6] at y6 fz6 ⊢
          have HW6 := Lib.hid hW6
          have HO3 := Lib.hid hO2
          have Hak := Lib.hid hak
          have kw6 : IntKind.i64.wrap ((k : Nat) : Int) = (k : Int) := w5
          clear hW6 hO2 hcell3 y5 hset f5 g5 hg3 hBl hak
          go_wp2_with fail
          go_end0
          have hfin := cut_fin (z := S0) H.out Hc.out Hlen.out Hw0.out Hrv.out (HB.out.kept HK5.out (by simp)) (HR9.out.kept HK5.out (by simp)) (HK.out.trans' (HK5.out.mono fun _ _ e => False.elim e)) HO3.out HG2.out HT7.out rfl HSz.out
          rw [Hak.out, ← HW6.out] at hfin
          exact ⟨rfl, _, hfin.1, hfin.2, rfl, ⟨rfl, rfl, rfl, rfl, rfl, rfl⟩⟩
  · have h0 : 0 < j := by omega
    obtain ⟨s, rfl, y1, y0⟩ := hcell q hq h0
    obtain ⟨k, hk⟩ : ∃ k, k = j - 1 := ⟨_, rfl⟩
    rw [← hk] at y1 hq
    have i1 : (j : Int) - 1 = (k : Int) := by omega
    have i2 : k < j := by omega
    have i3 : (k : Int) < (j : Int) := by omega
    have i4 : (0 : Int) < (j : Int) := by omega
    have i5 : IntKind.i64.wrap ((k : Nat) : Int) = (k : Int) := by rw [IntKind.wrap_i64]; omega
    obtain ⟨q1, hqq⟩ : ∃ q1, q1 = q.1 := ⟨_, rfl⟩
    rw [← hqq] at y1 hq1 hq2
    have i6 : (nx : Int) ≤ (q1 : Int) := by omega
    have hq3 : (1 : Int) < (j : Int) ∨ (¬ (1 : Int) < (j : Int) ∧ wr.cell? ⟨s, 0, none⟩ = some (.int .u64 0)) := by
      rcases hq2 with h9 | ⟨h9, h8⟩
      · exact .inl (by omega)
      · refine .inr ⟨by omega, ?_⟩
        have hk0 : k = 0 := by omega
        rw [hk0] at hq
        rw [y0 q hq, ← hqq, h8]; rfl
    have Hk := Lib.hid hk
    have HJk : Hid ((logCut G n).length ≤ k) := Lib.hid (by omega)
    have hlt : (G.take j).length = j := by rw [List.length_take]; have := hjG.out; omega
    obtain ⟨A9, c9, e9, e10, hS9⟩ := HS.out.pre k (by omega)
    rw [hlt] at e9 e10
    simp only [Value.slice.injEq, true_and] at e9
    obtain ⟨rfl, rfl⟩ := e9
    have HS9 := Lib.hid hS9
    have hs2 := fun W => slice_toSg W (some ⟨s, 0, none⟩) j k5 k (by omega) e10
    clear hlt hS9 e10
    clear hcell y0 hq hqq hq2 hk hjJ hq1
    rcases hq3 with z1 | ⟨z1, z2⟩
    all_goals
      go_wp2_with fail
      go_quiet ((go_at_call 31; exact Calls.quiet_of (HNx.out _)))
      go_wp2_with fail
    all_goals
      obtain ⟨W2, hW2⟩ : ∃ W2, W2 = wr.drewN nq := ⟨_, rfl⟩
      have hk2 : Kept (fun _ => False) wr W2 := by rw [hW2]; exact (Kept.refl _ wr).drewN _
      rw [← hW2]
      clear hW2
      have HK2 := Lib.hid hk2
      have e5 := hk2.cell c5 (by simp)
      have f5 := (HB.out.kept hk2 (by simp)).fz 5
      clear hk2
      go_region_law (fail)
    all_goals
      obtain ⟨W3, hW3⟩ : ∃ W3, W3 = (W2.setCell ⟨B, 5, none⟩ (.slice (some ⟨s, 0, none⟩) k k5)).drew := ⟨_, rfl⟩
      rw [← hW3]
      have hs := kF W2 B 5 (.slice (some ⟨s, 0, none⟩) k k5)
      have hd : Kept (fun _ => False) (W2.setCell ⟨B, 5, none⟩ (.slice (some ⟨s, 0, none⟩) k k5)) W3 := by rw [hW3]; exact (Kept.refl _ _).drew
      have hk : Kept (fun k => k = B) wr W3 := (HK2.out.mono fun _ _ e => False.elim e).trans' (hs.trans' (hd.mono fun _ _ e => False.elim e))
      have hnS : ∀ x, (Value.slice (some ⟨s, 0, none⟩) k k5).ownBlock = some x → x ≠ B := fun x e e2 => HB.out.noRow HS.out (by decide) (by rw [← e2]; exact e)
      have hS3 := own_kept HS9.out hk fun x e => hnS x e
      rw [List.take_take, Nat.min_eq_left (Nat.le_of_lt i2)] at hS3
      have hb3 : WB W3 B { ({ d with rv := Value.slice A n c } : Wd) with sv := .slice (some ⟨s, 0, none⟩) k k5 } := WB.kept (S := fun _ => False) (WB.set (WB.kept (S := fun _ => False) HB.out HK2.out (fun e => e)) 5 (.slice (some ⟨s, 0, none⟩) k k5) _ rfl) hd (fun e => e)
      have HE : Hid (CutI w0 W W3 B N { d with rv := .slice A n c } G (rs.take n) k) := Lib.hid ⟨_, _, hb3, hS3, HR9.out.kept hk (fun x e e2 => by
        obtain ⟨v0, n0, ys, k1, k2⟩ := HR9.out.own
        exact HB.out.noRow k1 (by decide) (by rw [k2, ← e2]; exact e)), HK.out.trans' hk, by have := hjG.out; omega, HBl.out⟩
      have HSeg : Hid (segN B W3 = k ∧ segN B wr = j) := Lib.hid ⟨by unfold segN; rw [hb3.c5], by unfold segN; rw [HB.out.c5]⟩
      clear hW3 hs hd hk hnS hS3 hb3
      go_wp2_with fail
      go_roundw
      case rel => exact ⟨k, HE, HJk⟩
      case measure => rw [HSeg.out.1, HSeg.out.2]; exact i2
end
end Go.Proofs.YtibalgfejfjndaaGreatDoor
end
