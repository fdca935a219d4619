import Derived.Test.YthkncfdgfbnchaaDoorYd
/-! courantref16: cut, all that it leaves; Rename. -/
section
set_option linter.unusedVariables false
set_option linter.unusedSimpArgs false
namespace Go.Proofs.YthkncfdgfbnchaaDoor
open Go.RowKit

set_option maxRecDepth 100000 in
set_option maxHeartbeats 4000000 in
theorem rcut_put (w : World) (R : Nat) (v : Value) (r1 r2 : List RV) (r : RV) (most fuse : Int) (dn : Bool) (h : RefAt w R v (r1 ++ r :: r2) most fuse dn) :
    Calls Tryd.prog 86 #[.pointer (some ⟨R, 0, none⟩), .int .i64 r1.length] w fun e w' => e = .returned (.tuple #[]) ∧ ∃ v', RPut w w' R v' (r1 ++ r2) most fuse dn := by
  obtain ⟨A, c, hv, hf⟩ := h.form
  have H := Lib.hid h
  have HCap := Lib.hid hf.cap
  have h0 := h.rb.c0
  have f0 := h.rb.fz 0
  have hfew := h.few
  obtain ⟨n, hn⟩ : ∃ n, n = (r1 ++ r :: r2).length := ⟨_, rfl⟩
  obtain ⟨k, hk⟩ : ∃ k, k = r1.length := ⟨_, rfl⟩
  obtain ⟨m, hm⟩ : ∃ m, m = r2.length := ⟨_, rfl⟩
  have hnk : n = k + 1 + m := by rw [hn, hk, hm]; simp; omega
  rw [← hn] at hv
  have hcap : n ≤ c := by rw [hn]; exact hf.cap
  rw [← hn] at hfew
  have hAc : A = none → c = 0 := fun e => (hf.none_ e).2
  have hP : Hid (∀ W, Kept (fun _ => False) w W → Cs W A (cellsR r1)) := Lib.hid fun W hW => by
    have h2 := h
    rw [hv] at h2
    exact h2.pre.kept hW (by simp)
  have hQ : Hid (∀ W, Kept (fun _ => False) w W → Cs W (if c = k + 1 then A else A.map (·.add ((k + 1) * 3))) (cellsR r2)) := Lib.hid fun W hW => by
    have h2 : RefAt w R (.slice A n c) ((r1 ++ [r]) ++ r2) most fuse dn := by rw [← hv]; simpa using h
    have := (h2.post (k + 1) (by simp [hk]) (by have := hf.cap; simpa using this)).kept hW (by simp)
    simpa using this
  have hone1 : Hid (∀ u ∈ cellsR r1, u.oneCell' = true) := Lib.hid (cellsR_one _ fun q hq => own_one (h.at_ q (by simp [hq])).own)
  have hone2 : Hid (∀ u ∈ cellsR r2, u.oneCell' = true) := Lib.hid (cellsR_one _ fun q hq => own_one (h.at_ q (by simp [hq])).own)
  have hs1 : ∀ W, (Instr.slice 50 v none (some (.int .i64 k)) none).run Tryd.prog W = .ok (.slice A k c) W := fun W => by rw [hv]; exact slice_to3 W A n k c (by omega)
  have hs2 : ∀ W, (Instr.slice 50 (.slice A n c) (some (.int .i64 ((k : Int) + 1))) none none).run Tryd.prog W = .ok (.slice (if c = k + 1 then A else A.map (·.add ((k + 1) * 3))) m (c - (k + 1))) W := fun W => by
    have := slice_from3 W A n (k + 1) c (by omega) (by omega)
    rw [show n - (k + 1) = m by omega] at this
    exact this
  have hA2 : Hid ((if c = k + 1 then A else A.map (·.add ((k + 1) * 3))) = none → c - (k + 1) = 0) := Lib.hid fun e => by
    have : A = none := by
      split at e
      · exact e
      · cases A with | none => rfl | some _ => simp at e
    have := hAc this
    omega
  have Hk := Lib.hid hk
  have Hm := Lib.hid hm
  have hk9 : (k : Int) ≤ 1000 := by omega
  have hk8 : (k : Int) < (n : Int) := by omega
  have hnc : (n : Int) ≤ (c : Int) := by omega
  have hnk9 : (n : Int) = (k : Int) + 1 + (m : Int) := by omega
  have hwr : IntKind.i64.wrap ((k : Int) + 1) = (k : Int) + 1 := by simp only [IntKind.wrap, IntKind.signed, IntKind.bits]; first | omega | (simp; omega)
  have Hfew := Lib.hid hfew
  have HAc := Lib.hid hAc
  obtain ⟨A2, hA2e⟩ : ∃ A2, A2 = (if c = k + 1 then A else A.map (·.add ((k + 1) * 3))) := ⟨_, rfl⟩
  rw [← hA2e] at hQ hA2
  have hs2' : ∀ W, (Instr.slice 50 v (some (.int .i64 ((k : Int) + 1))) none none).run Tryd.prog W = .ok (.slice A2 m (c - (k + 1))) W := fun W => by rw [hA2e, hv]; exact hs2 W
  rw [← hk]
  have HC0 : Hid (∀ W, Kept (fun _ => False) w W → W.cell? ⟨R, 0, none⟩ = some v ∧ W.frozen? ⟨R, 0, none⟩ = false) := Lib.hid fun W hW => by
    exact ⟨RB.c0 (show RB W R v most fuse dn from hW.heap h.rb (by simp)), RB.fz (show RB W R v most fuse dn from hW.heap h.rb (by simp)) 0⟩
  clear h hf hv hn hk hm hnk hcap hfew hAc hs2 hA2e
  go_enter Tryd.func86, Tryd.ntmps86
  go_wp2_with fail
  go_region_law (first
    | (refine step_append_rf rfl _ _ rfl w.heap.size _ _ _ rfl HV1.out A2 m (c - (k + 1)) (cellsR r2) rfl (hQ.out _ HK1.out) (by rw [cellsR_len, Hm.out]; omega) hone2.out hA2.out (by have := Hfew.out; omega) HK1.out.size ?_; intro v2 w2 hown hgrow; obtain ⟨A9, c9, rfl⟩ := own_slice hown; have HV2 := Lib.hid hown; have HK2 := Lib.hid (HK1.out.grown hgrow (fun k e hk => by have := own_ge HV1.out k e; omega)); obtain ⟨hc2, hf2⟩ := HC0.out _ HK2.out; clear hown hgrow)
    | (refine step_append_rf rfl _ _ rfl w.heap.size _ 0 [] rfl (World.ownsRow_nil _ _ _ _) A k c (cellsR r1) rfl (hP.out _ ((Kept.refl (fun _ => False) w).drew)) (by rw [cellsR_len, Hk.out]; omega) hone1.out HAc.out (by omega) (Nat.le_refl _) ?_; intro v1 w1 hown hgrow; have HV1 := Lib.hid hown; have HK1 := Lib.hid (((Kept.refl (fun _ => False) w).drew).grown hgrow (fun k e hk => by simp [Value.ownBlock, Act.eval] at e)); obtain ⟨hc1, hf1⟩ := HC0.out _ HK1.out; clear hown hgrow))
  all_goals
    go_end0
    have hE := rows_end (rs' := r1 ++ r2) H.out HK2.out (by have := HV2.out; rw [List.nil_append, ← cellsR_append] at this; rwa [show (r1 ++ r2).length = 0 + k + m by rw [List.length_append, Hk.out, Hm.out]; omega]) (fun q hq => by
      have hq' : q ∈ r1 ++ r :: r2 := by rcases List.mem_append.1 hq with h | h <;> simp [h]
      exact ⟨H.out.at_ q hq', fun e => (H.out.sep q hq' R e).1 rfl⟩) (by rw [List.length_append, ← Hk.out, ← Hm.out]; have := Hfew.out; omega)
    simp only [Nat.zero_add] at hE
    exact ⟨rfl, _, hE⟩

/-- A file in its place. -/
def insR (rs : List RV) (x : RV) : List RV := rs.take (atR rs x.key) ++ x :: rs.drop (atR rs x.key)
theorem SortedR.sub {r1 r2 : List RV} {r : RV} (h : SortedR (r1 ++ r :: r2)) : SortedR (r1 ++ r2) := by
  unfold SortedR at h ⊢
  exact h.sublist (List.Sublist.map _ (List.Sublist.append_left (List.sublist_cons_self r r2) r1))
theorem SortedR.nodup {r1 r2 : List RV} {r : RV} (h : SortedR (r1 ++ r :: r2)) : ∀ q ∈ r1 ++ r2, q.name ≠ r.name := by
  intro q hq e
  have ek : q.key = r.key := by unfold RV.key; rw [e]
  unfold SortedR at h
  rw [List.map_append, List.pairwise_append, List.map_cons, List.pairwise_cons] at h
  rcases List.mem_append.1 hq with hq | hq
  · exact List.lt_irrefl _ (ek ▸ h.2.2 _ (List.mem_map_of_mem hq) _ (List.mem_cons_self ..))
  · exact List.lt_irrefl _ (ek ▸ h.2.1.1 _ (List.mem_map_of_mem hq))
set_option maxHeartbeats 1000000 in
theorem rren_down (s t : ByteArray) (w : World) (R : Nat) (v : Value) (rs : List RV) (most fuse : Int) (hs : SortedR rs) (h : RefAt w R v rs most fuse true) :
    Calls Tryd.prog 54 #[.pointer (some ⟨R, 0, none⟩), .string s, .string t] w (RNo 13 w) := by
  obtain ⟨z, hz⟩ := rfind_ex s w R v rs most fuse true hs h
  have HZ := Lib.hid hz
  have h3 := h.rb.c3
  clear h hs hz
  go_enter Tryd.func54, Tryd.ntmps54
  go_wp2_with (go_at_call 67; refine HZ.out.mono ?_; rintro e w ⟨rfl, rfl⟩)
  go_ret
  exact ⟨rfl, Kept.refl _ _⟩
set_option maxHeartbeats 1000000 in
theorem rren_none (s t : ByteArray) (w : World) (R : Nat) (v : Value) (rs : List RV) (most fuse : Int) (hno : ∀ r ∈ rs, r.name ≠ s) (h : RefAt w R v rs most fuse false) :
    Calls Tryd.prog 54 #[.pointer (some ⟨R, 0, none⟩), .string s, .string t] w (RNo 8 w) := by
  have HZ := Lib.hid (rfind_none s w R v rs most fuse false hno h)
  have h3 := h.rb.c3
  clear h hno
  go_enter Tryd.func54, Tryd.ntmps54
  go_wp2_with (go_at_call 67; refine HZ.out.mono ?_; rintro e w ⟨rfl, rfl⟩)
  go_ret
  exact ⟨rfl, Kept.refl _ _⟩
set_option maxHeartbeats 1000000 in
theorem rren_bad (t : ByteArray) (w : World) (R : Nat) (v : Value) (r1 r2 : List RV) (r : RV) (most fuse : Int) (ht : t.size ≤ 140737488355328) (hf : fullB t = false) (hs : SortedR (r1 ++ r :: r2)) (h : RefAt w R v (r1 ++ r :: r2) most fuse false) :
    Calls Tryd.prog 54 #[.pointer (some ⟨R, 0, none⟩), .string r.name, .string t] w (RNo 6 w) := by
  have HZ := Lib.hid (rfind_some w R v r1 r2 r most fuse false hs h)
  have HF := Lib.hid (rfull_any t w ht)
  rw [hf] at HF
  have h3 := h.rb.c3
  clear h hs hf ht
  go_enter Tryd.func54, Tryd.ntmps54
  go_wp2_with (first
    | (go_at_call 67; refine HZ.out.mono ?_; rintro e w ⟨rfl, rfl⟩)
    | (go_at_call 85; refine HF.out.mono ?_; rintro e w ⟨rfl, rfl⟩))
  go_ret
  exact ⟨rfl, Kept.refl _ _⟩
set_option maxHeartbeats 1000000 in
theorem rren_hit (t : ByteArray) (w : World) (R : Nat) (v : Value) (r1 r2 : List RV) (r : RV) (most : Int) (ht : t.size ≤ 140737488355328) (hf : fullB t = true) (hs : SortedR (r1 ++ r :: r2)) (h : RefAt w R v (r1 ++ r :: r2) most 1 false) :
    Calls Tryd.prog 54 #[.pointer (some ⟨R, 0, none⟩), .string r.name, .string t] w (RGone 13 w R v (r1 ++ r :: r2) (r1 ++ r :: r2) most (decA 1) true) := by
  have HZ := Lib.hid (rfind_some w R v r1 r2 r most 1 false hs h)
  have HF := Lib.hid (rfull_any t w ht)
  rw [hf] at HF
  have HH := Lib.hid (rhit_at h true (by simp))
  have h3 := h.rb.c3
  clear h hs hf ht
  go_enter Tryd.func54, Tryd.ntmps54
  go_wp2_with (first
    | (go_at_call 67; refine HZ.out.mono ?_; rintro e w ⟨rfl, rfl⟩)
    | (go_at_call 85; refine HF.out.mono ?_; rintro e w ⟨rfl, rfl⟩)
    | (go_at_call 84; refine HH.out.mono ?_; rintro e w1 ⟨rfl, hw⟩; have HW := Lib.hid hw; clear hw))
  go_ret
  exact ⟨rfl, _, HW.out⟩
set_option maxHeartbeats 1000000 in
theorem rren_same (w : World) (R : Nat) (v : Value) (r1 r2 : List RV) (r : RV) (most fuse : Int) (ha : fuse ≠ 1) (ht : r.name.size ≤ 140737488355328) (hf : fullB r.name = true) (hs : SortedR (r1 ++ r :: r2)) (h : RefAt w R v (r1 ++ r :: r2) most fuse false) :
    Calls Tryd.prog 54 #[.pointer (some ⟨R, 0, none⟩), .string r.name, .string r.name] w (RGone 0 w R v (r1 ++ r :: r2) (r1 ++ r :: r2) most (decA fuse) false) := by
  have HZ := Lib.hid (rfind_some w R v r1 r2 r most fuse false hs h)
  have HF := Lib.hid (rfull_any r.name w ht)
  rw [hf] at HF
  have HH := Lib.hid (rhit_at h false (by simp [ha]))
  have h3 := h.rb.c3
  clear h hs hf ht ha
  go_enter Tryd.func54, Tryd.ntmps54
  go_wp2_with (first
    | (go_at_call 67; refine HZ.out.mono ?_; rintro e w ⟨rfl, rfl⟩)
    | (go_at_call 85; refine HF.out.mono ?_; rintro e w ⟨rfl, rfl⟩)
    | (go_at_call 84; refine HH.out.mono ?_; rintro e w1 ⟨rfl, hw⟩; have HW := Lib.hid hw; clear hw))
  go_ret
  exact ⟨rfl, _, HW.out⟩
end Go.Proofs.YthkncfdgfbnchaaDoor
end

/-! courantref16: Rename. -/
section
set_option linter.unusedVariables false
set_option linter.unusedSimpArgs false
namespace Go.Proofs.YthkncfdgfbnchaaDoor
open Go.RowKit

theorem mem_insR {rs : List RV} {x q : RV} (h : q ∈ insR rs x) : q = x ∨ q ∈ rs := by
  simp only [insR, List.mem_append, List.mem_cons] at h
  rcases h with h | h | h
  · exact .inr (List.mem_of_mem_take h)
  · exact .inl h
  · exact .inr (List.mem_of_mem_drop h)
theorem ren_end {w1 W2 w4 w5 : World} {R D : Nat} {v v5 : Value} {rs qs : List RV} {r x : RV} {most fuse : Int} {dn : Bool} (h1 : RefAt w1 R v rs most fuse dn) (hD : D = w1.heap.size) (hk2 : Kept (fun _ => False) w1 W2) (hk4 : Kept (fun k => k = R ∨ k = D) W2 w4) (hr : r ∈ rs) (hx : x.val = r.val)
    (hq : ∀ q ∈ qs, q ∈ rs) (hp : RPut w4 w5 R v5 (insR qs x) most fuse dn) : RWent w1 w5 R v rs v5 (insR qs x) most fuse dn := by
  have hk : Kept (fun k => k ∈ rfoot R v rs) w1 w5 := by
    refine ((hk2.mono fun _ _ h => h.elim).trans hk4 fun k hk h => ?_).trans hp.2.1 fun k hk e => by subst e; simp [rfoot]
    rcases h with h | h
    · subst h; simp [rfoot]
    · omega
  refine ⟨hp.1, hk, fun k hk => ?_⟩
  rcases hp.2.2 k hk with h | h | ⟨q, hqm, h⟩
  · exact .inl (by subst h; simp [rfoot])
  · exact .inr (by have := hk2.size; have := hk4.size; omega)
  · rcases mem_insR hqm with rfl | hqm
    · exact .inl (mem_rfoot hr (by rw [← hx]; exact h))
    · exact .inl (mem_rfoot (hq q hqm) h)
/-- put in the form of insR. -/
theorem rput_ins (w : World) (R : Nat) (v : Value) (rs : List RV) (nm : ByteArray) (xb : List UInt8) (xs : Nat) (Ax : Option Addr) (cx : Nat) (most fuse : Int) (dn : Bool) (h : RefAt w R v rs most fuse dn)
    (hx : (RV.mk nm xb xs (.slice Ax xb.length cx)).At w) (hxR : (Value.slice Ax xb.length cx).ownBlock ≠ some R) (hl : rs.length + 1 ≤ 1000) :
    Calls Tryd.prog 87 #[.pointer (some ⟨R, 0, none⟩), .agg #[.string nm, .slice Ax xb.length cx, .int .i64 xs]] w fun e w' => e = .returned (.tuple #[]) ∧ ∃ v', RPut w w' R v' (insR rs ⟨nm, xb, xs, .slice Ax xb.length cx⟩) most fuse dn := by
  have e : rs.take (atR rs nm.data.toList) ++ rs.drop (atR rs nm.data.toList) = rs := List.take_append_drop _ _
  exact rput_any w R v (rs.take (atR rs nm.data.toList)) (rs.drop (atR rs nm.data.toList)) nm xb xs Ax cx most fuse dn (by rw [e]; exact h) (by rw [e, List.length_take, Nat.min_eq_left (atR_le _ _)]) hx hxR (by rw [e]; exact hl)
set_option maxRecDepth 100000 in
set_option maxHeartbeats 4000000 in
theorem rren_new (t : ByteArray) (w : World) (R : Nat) (v : Value) (r1 r2 : List RV) (r : RV) (most fuse : Int) (ha : fuse ≠ 1) (ht : t.size ≤ 140737488355328) (hf : fullB t = true) (hne : r.name ≠ t) (hno : ∀ q ∈ r1 ++ r2, q.name ≠ t) (hs : SortedR (r1 ++ r :: r2)) (h : RefAt w R v (r1 ++ r :: r2) most fuse false) :
    Calls Tryd.prog 54 #[.pointer (some ⟨R, 0, none⟩), .string r.name, .string t] w (RGone 0 w R v (r1 ++ r :: r2) (insR (r1 ++ r2) { r with name := t }) most (decA fuse) false) := by
  have HZ := Lib.hid (rfind_some w R v r1 r2 r most fuse false hs h)
  have HF := Lib.hid (rfull_any t w ht)
  rw [hf] at HF
  have HH := Lib.hid (rhit_at h false (by simp [ha]))
  have h3 := h.rb.c3
  have hnb := str_eq r.name t
  rw [decide_eq_false hne] at hnb
  have HNo := Lib.hid hno
  have hl8 := h.few
  have Hl8 := Lib.hid hl8
  clear h hs hf ha hne ht hno hl8
  go_enter Tryd.func54, Tryd.ntmps54
  go_upto_region 12 with (first
    | (go_at_call 67; refine HZ.out.mono ?_; rintro e w ⟨rfl, rfl⟩)
    | (go_at_call 85; refine HF.out.mono ?_; rintro e w ⟨rfl, rfl⟩)
    | (go_at_call 84; refine HH.out.mono ?_; rintro e w1 ⟨rfl, hw⟩; have HW := Lib.hid hw; clear hw))
  obtain ⟨Av, cv, hv, hf⟩ := HW.out.at_.form
  obtain ⟨G, rfl, hG, hc0, hc1, hc2, hfz⟩ := hf.at_ (show (r1 ++ r :: r2)[r1.length]? = some r by simp)
  obtain ⟨A0, c0, hrv⟩ := own_slice (HW.out.at_.at_ r (by simp)).own
  rw [hrv] at hc1
  have HRV := Lib.hid hrv
  have h0 := HW.out.at_.rb.c0
  rw [hv] at h0
  obtain ⟨nn, hnn⟩ : ∃ nn, nn = (r1 ++ r :: r2).length := ⟨_, rfl⟩
  obtain ⟨k, hk⟩ : ∃ k, k = r1.length := ⟨_, rfl⟩
  rw [← hnn] at h0
  rw [← hk] at hc0 hc1 hc2 ⊢
  have hkn : (k : Int) < (nn : Int) := by rw [hk, hnn]; simp; omega
  have Hk := Lib.hid hk
  clear hv hf hG hfz hrv hnn hk h3
  go_upto_region 13 with fail
  obtain ⟨W2, hW2⟩ : ∃ W2, W2 = w1.alloc (.cells #[.string r.name, .slice A0 r.b.length c0, .int .i64 (r.safe : Nat)] 95) := ⟨_, rfl⟩
  obtain ⟨D, hD⟩ : ∃ D, D = w1.heap.size := ⟨_, rfl⟩
  have hk2 : Kept (fun _ => False) w1 W2 := by rw [hW2]; exact (Kept.refl _ w1).alloc _
  have hh : W2.heap[D]? = some (.cells #[.string r.name, .slice A0 r.b.length c0, .int .i64 (r.safe : Nat)] 95 (0, 0)) := by rw [hW2, hD]; exact heap_alloc_new w1 _
  have HR2 : Hid (RefAt W2 R v (r1 ++ r :: r2) most (decA fuse) false) := Lib.hid (HW.out.at_.kept hk2 (by simp))
  have hlt := HW.out.at_.lt
  have hRD : R ≠ D := fun e => by have := hlt R (by simp [rfoot]); omega
  have HHh : Hid (∀ W, Kept (fun k => k = R) W2 W → W.heap[D]? = some (.cells #[.string r.name, .slice A0 r.b.length c0, .int .i64 (r.safe : Nat)] 95 (0, 0))) := Lib.hid fun W hW => hW.heap hh (fun e => hRD e.symm)
  have hrB : ∀ b, (Value.slice A0 r.b.length c0).ownBlock = some b → b ≠ R ∧ b < D := fun b hb => by
    rw [← HRV.out] at hb
    exact ⟨(HW.out.at_.sep r (by simp) b hb).1, by rw [hD]; exact hlt b (mem_rfoot (r := r) (by simp) hb)⟩
  have HX : Hid (∀ W, Kept (fun k => k = R ∨ k = D) W2 W → (RV.mk t r.b r.safe (.slice A0 r.b.length c0)).At W) := Lib.hid fun W hW => by
    have ho := (HW.out.at_.at_ r (by simp)).own
    rw [HRV.out] at ho
    exact ⟨own_kept (own_kept ho hk2 (by simp)) hW fun b hb e => by have := hrB b hb; omega, (HW.out.at_.at_ r (by simp)).safe, (HW.out.at_.at_ r (by simp)).len⟩
  have HrB := Lib.hid hrB
  have Hlt := Lib.hid hlt
  have HK2 := Lib.hid hk2
  have hD2 : D < W2.heap.size := (Array.getElem?_eq_some_iff.1 hh).1
  have HD2 := Lib.hid hD2
  rw [← hD, ← hW2]
  have HD := Lib.hid hD
  have HRD := Lib.hid hRD
  clear hW2 hh hk2 hD hlt hrB hRD hD2 hc0 hc1 hc2 h0
  go_upto_region 16 with (first
    | (go_at_call 86; rw [Hk.out]; refine (rcut_put _ R v r1 r2 r most _ _ HR2.out).mono ?_; rintro e w3 ⟨rfl, v3, hp⟩; have HP := Lib.hid hp; clear hp)
    | (go_at_call 67; refine (rfind_none t _ R _ _ most _ _ HNo.out HP.out.1).mono ?_; rintro e w3 ⟨rfl, rfl⟩))
  have hh3 := HHh.out _ HP.out.2.1
  have hd0 : w3.cell? ⟨D, 0, none⟩ = some (.string r.name) := by rw [cell_of_row _ _ _ _ _ _ hh3]; rfl
  have hdf : w3.frozen? ⟨D, 0, none⟩ = false := frozen_of_row _ _ _ _ _ hh3
  obtain ⟨w4, hw4⟩ : ∃ w4, w4 = w3.setCell ⟨D, 0, none⟩ (.string t) := ⟨_, rfl⟩
  have e0 : w4.cell? ⟨D, 0, none⟩ = some (.string t) := by rw [hw4]; exact World.cell?_setCell_same' _ _ _ (by rw [hd0]; rfl)
  have e1 : w4.cell? ⟨D, 1, none⟩ = some (.slice A0 r.b.length c0) := by rw [hw4, cell_off w3 D 0 1 _ (by omega), cell_of_row _ _ _ _ _ _ hh3]; rfl
  have e2 : w4.cell? ⟨D, 2, none⟩ = some (.int .i64 (r.safe : Nat)) := by rw [hw4, cell_off w3 D 0 2 _ (by omega), cell_of_row _ _ _ _ _ _ hh3]; rfl
  have hk34 : Kept (fun k => k = D) w3 w4 := by rw [hw4]; exact kF w3 D 0 _
  have hDno : ∀ k ∈ rfoot R v3 (r1 ++ r2), k ≠ D := fun k hk e => by
    subst e
    rcases HP.out.2.2 _ hk with h | h | ⟨q, hq, h⟩
    · exact HRD.out h.symm
    · have := HD2.out; omega
    · have := Hlt.out _ (mem_rfoot (r := q) (by rcases List.mem_append.1 hq with h | h <;> simp [h]) h)
      have := HD.out; omega
  have HR4 : Hid (RefAt w4 R v3 (r1 ++ r2) most (decA fuse) false) := Lib.hid (HP.out.1.kept hk34 hDno)
  have HK24 : Hid (Kept (fun k => k = R ∨ k = D) W2 w4) := Lib.hid ((HP.out.2.1.mono fun _ _ h => .inl h).trans' (hk34.mono fun _ _ h => .inr h))
  clear hh3 hk34 hDno
  go_upto_region 17 with fail
  rw [← hw4]
  clear hw4 hd0 hdf
  go_wp2_with (go_at_call 87; refine (rput_ins _ R v3 (r1 ++ r2) t r.b r.safe A0 c0 most _ _ HR4.out (HX.out _ HK24.out) (fun e => (HrB.out R e).1 rfl) (by have := Hl8.out; simp at this ⊢; omega)).mono ?_; rintro e w5 ⟨rfl, v5, hp⟩; have HP5 := Lib.hid hp; clear hp)
  go_ret
  have hE := ren_end (r := r) HW.out.at_ HD.out HK2.out HK24.out (by simp) (by rw [HRV.out]) (fun q hq => by rcases List.mem_append.1 hq with h | h <;> simp [h]) HP5.out
  rw [← HRV.out] at hE
  exact ⟨rfl, _, HW.out.trans hE⟩
set_option maxRecDepth 100000 in
set_option maxHeartbeats 4000000 in
theorem rren_over (t : ByteArray) (w : World) (R : Nat) (v : Value) (r1 r2 p1 p2 : List RV) (r p : RV) (most fuse : Int) (ha : fuse ≠ 1) (ht : t.size ≤ 140737488355328) (hf : fullB t = true) (hne : r.name ≠ t) (hpe : r1 ++ r2 = p1 ++ p :: p2) (hpt : p.name = t) (hs : SortedR (r1 ++ r :: r2)) (h : RefAt w R v (r1 ++ r :: r2) most fuse false) :
    Calls Tryd.prog 54 #[.pointer (some ⟨R, 0, none⟩), .string r.name, .string t] w (RGone 0 w R v (r1 ++ r :: r2) (insR (p1 ++ p2) { r with name := t }) most (decA fuse) false) := by
  have HZ := Lib.hid (rfind_some w R v r1 r2 r most fuse false hs h)
  have HF := Lib.hid (rfull_any t w ht)
  rw [hf] at HF
  have HH := Lib.hid (rhit_at h false (by simp [ha]))
  have h3 := h.rb.c3
  have hnb := str_eq r.name t
  rw [decide_eq_false hne] at hnb
  have HPe := Lib.hid hpe
  have HPt := Lib.hid hpt
  have HSp : Hid (SortedR (p1 ++ p :: p2)) := Lib.hid (by rw [← hpe]; exact hs.sub)
  have hl8 := h.few
  have Hl8 := Lib.hid hl8
  clear h hs hf ha hne ht hpe hpt hl8
  go_enter Tryd.func54, Tryd.ntmps54
  go_upto_region 12 with (first
    | (go_at_call 67; refine HZ.out.mono ?_; rintro e w ⟨rfl, rfl⟩)
    | (go_at_call 85; refine HF.out.mono ?_; rintro e w ⟨rfl, rfl⟩)
    | (go_at_call 84; refine HH.out.mono ?_; rintro e w1 ⟨rfl, hw⟩; have HW := Lib.hid hw; clear hw))
  obtain ⟨Av, cv, hv, hf⟩ := HW.out.at_.form
  obtain ⟨G, rfl, hG, hc0, hc1, hc2, hfz⟩ := hf.at_ (show (r1 ++ r :: r2)[r1.length]? = some r by simp)
  obtain ⟨A0, c0, hrv⟩ := own_slice (HW.out.at_.at_ r (by simp)).own
  rw [hrv] at hc1
  have HRV := Lib.hid hrv
  have h0 := HW.out.at_.rb.c0
  rw [hv] at h0
  obtain ⟨nn, hnn⟩ : ∃ nn, nn = (r1 ++ r :: r2).length := ⟨_, rfl⟩
  obtain ⟨k, hk⟩ : ∃ k, k = r1.length := ⟨_, rfl⟩
  rw [← hnn] at h0
  rw [← hk] at hc0 hc1 hc2 ⊢
  have hkn : (k : Int) < (nn : Int) := by rw [hk, hnn]; simp; omega
  have Hk := Lib.hid hk
  clear hv hf hG hfz hrv hnn hk h3
  go_upto_region 13 with fail
  obtain ⟨W2, hW2⟩ : ∃ W2, W2 = w1.alloc (.cells #[.string r.name, .slice A0 r.b.length c0, .int .i64 (r.safe : Nat)] 95) := ⟨_, rfl⟩
  obtain ⟨D, hD⟩ : ∃ D, D = w1.heap.size := ⟨_, rfl⟩
  have hk2 : Kept (fun _ => False) w1 W2 := by rw [hW2]; exact (Kept.refl _ w1).alloc _
  have hh : W2.heap[D]? = some (.cells #[.string r.name, .slice A0 r.b.length c0, .int .i64 (r.safe : Nat)] 95 (0, 0)) := by rw [hW2, hD]; exact heap_alloc_new w1 _
  have HR2 : Hid (RefAt W2 R v (r1 ++ r :: r2) most (decA fuse) false) := Lib.hid (HW.out.at_.kept hk2 (by simp))
  have hlt := HW.out.at_.lt
  have hRD : R ≠ D := fun e => by have := hlt R (by simp [rfoot]); omega
  have HHh : Hid (∀ W, Kept (fun k => k = R) W2 W → W.heap[D]? = some (.cells #[.string r.name, .slice A0 r.b.length c0, .int .i64 (r.safe : Nat)] 95 (0, 0))) := Lib.hid fun W hW => hW.heap hh (fun e => hRD e.symm)
  have hrB : ∀ b, (Value.slice A0 r.b.length c0).ownBlock = some b → b ≠ R ∧ b < D := fun b hb => by
    rw [← HRV.out] at hb
    exact ⟨(HW.out.at_.sep r (by simp) b hb).1, by rw [hD]; exact hlt b (mem_rfoot (r := r) (by simp) hb)⟩
  have HX : Hid (∀ W, Kept (fun k => k = R ∨ k = D) W2 W → (RV.mk t r.b r.safe (.slice A0 r.b.length c0)).At W) := Lib.hid fun W hW => by
    have ho := (HW.out.at_.at_ r (by simp)).own
    rw [HRV.out] at ho
    exact ⟨own_kept (own_kept ho hk2 (by simp)) hW fun b hb e => by have := hrB b hb; omega, (HW.out.at_.at_ r (by simp)).safe, (HW.out.at_.at_ r (by simp)).len⟩
  have HrB := Lib.hid hrB
  have Hlt := Lib.hid hlt
  have HK2 := Lib.hid hk2
  have hD2 : D < W2.heap.size := (Array.getElem?_eq_some_iff.1 hh).1
  have HD2 := Lib.hid hD2
  rw [← hD, ← hW2]
  have HD := Lib.hid hD
  have HRD := Lib.hid hRD
  clear hW2 hh hk2 hD hlt hrB hRD hD2 hc0 hc1 hc2 h0
  have Hsub : Hid (∀ q ∈ p1 ++ p2, q ∈ r1 ++ r :: r2) := Lib.hid fun q hq => by
    have : q ∈ r1 ++ r2 := by rw [HPe.out]; rcases List.mem_append.1 hq with h | h <;> simp [h]
    rcases List.mem_append.1 this with h | h <;> simp [h]
  go_upto_region 16 with (first
    | (go_at_call 86; refine (rcut_put _ R v9 p1 p2 p most _ _ HP9.out.1).mono ?_; rintro e w3 ⟨rfl, v3, hp⟩; have HP := Lib.hid (show RPut W2 w3 R v3 (p1 ++ p2) most (decA fuse) false from ⟨hp.1, HP9.out.2.1.trans' hp.2.1, fun k hk => by
        rcases hp.2.2 k hk with h | h | h
        · exact .inl h
        · exact .inr (.inl (Nat.le_trans HP9.out.2.1.size h))
        · exact .inr (.inr h)⟩); clear hp)
    | (go_at_call 86; rw [Hk.out]; refine (rcut_put _ R v r1 r2 r most _ _ HR2.out).mono ?_; rintro e w9 ⟨rfl, v9, hp⟩; rw [HPe.out] at hp; have HP9 := Lib.hid hp; clear hp)
    | (go_at_call 67; have hz := rfind_some _ R _ p1 p2 p most _ _ HSp.out HP9.out.1; rw [HPt.out] at hz; refine hz.mono ?_; clear hz; rintro e w9 ⟨rfl, rfl⟩))
  have hh3 := HHh.out _ HP.out.2.1
  have hd0 : w3.cell? ⟨D, 0, none⟩ = some (.string r.name) := by rw [cell_of_row _ _ _ _ _ _ hh3]; rfl
  have hdf : w3.frozen? ⟨D, 0, none⟩ = false := frozen_of_row _ _ _ _ _ hh3
  obtain ⟨w4, hw4⟩ : ∃ w4, w4 = w3.setCell ⟨D, 0, none⟩ (.string t) := ⟨_, rfl⟩
  have e0 : w4.cell? ⟨D, 0, none⟩ = some (.string t) := by rw [hw4]; exact World.cell?_setCell_same' _ _ _ (by rw [hd0]; rfl)
  have e1 : w4.cell? ⟨D, 1, none⟩ = some (.slice A0 r.b.length c0) := by rw [hw4, cell_off w3 D 0 1 _ (by omega), cell_of_row _ _ _ _ _ _ hh3]; rfl
  have e2 : w4.cell? ⟨D, 2, none⟩ = some (.int .i64 (r.safe : Nat)) := by rw [hw4, cell_off w3 D 0 2 _ (by omega), cell_of_row _ _ _ _ _ _ hh3]; rfl
  have hk34 : Kept (fun k => k = D) w3 w4 := by rw [hw4]; exact kF w3 D 0 _
  have hDno : ∀ k ∈ rfoot R v3 (p1 ++ p2), k ≠ D := fun k hk e => by
    subst e
    rcases HP.out.2.2 _ hk with h | h | ⟨q, hq, h⟩
    · exact HRD.out h.symm
    · have := HD2.out; omega
    · have := Hlt.out _ (mem_rfoot (r := q) (Hsub.out q hq) h)
      have := HD.out; omega
  have HR4 : Hid (RefAt w4 R v3 (p1 ++ p2) most (decA fuse) false) := Lib.hid (HP.out.1.kept hk34 hDno)
  have HK24 : Hid (Kept (fun k => k = R ∨ k = D) W2 w4) := Lib.hid ((HP.out.2.1.mono fun _ _ h => .inl h).trans' (hk34.mono fun _ _ h => .inr h))
  clear hh3 hk34 hDno
  go_upto_region 17 with fail
  rw [← hw4]
  clear hw4 hd0 hdf
  go_wp2_with (go_at_call 87; refine (rput_ins _ R v3 (p1 ++ p2) t r.b r.safe A0 c0 most _ _ HR4.out (HX.out _ HK24.out) (fun e => (HrB.out R e).1 rfl) (by have := Hl8.out; have h2 := congrArg List.length HPe.out; simp at this h2 ⊢; omega)).mono ?_; rintro e w5 ⟨rfl, v5, hp⟩; have HP5 := Lib.hid hp; clear hp)
  go_ret
  have hE := ren_end (r := r) HW.out.at_ HD.out HK2.out HK24.out (by simp) (by rw [HRV.out]) Hsub.out HP5.out
  rw [← HRV.out] at hE
  exact ⟨rfl, _, HW.out.trans hE⟩
end Go.Proofs.YthkncfdgfbnchaaDoor
end

/-! courantref16: Crash, exactly. -/
section
set_option linter.unusedVariables false
set_option linter.unusedSimpArgs false
namespace Go.Proofs.YthkncfdgfbnchaaDoor
open Go.RowKit

structure FellR (n : Nat) (zs : List Int) (i : Nat) (r r' : RV) : Prop where
  name : r'.name = r.name
  b : r'.b = r.b.take (r.safe + keepN n zs i r.safe r.b.length)
  safe : r'.safe = r.safe + keepN n zs i r.safe r.b.length
def cntR (rs : List RV) (k : Nat) : Nat := ((rs.take k).filter fun r => decide (r.safe ≠ r.b.length)).length
theorem cntR_succ (rs : List RV) (k : Nat) (r : RV) (h : rs[k]? = some r) : cntR rs (k + 1) = cntR rs k + if r.safe = r.b.length then 0 else 1 := by
  unfold cntR
  rw [List.take_add_one, h, List.filter_append, List.length_append]
  by_cases hs : r.safe = r.b.length <;> simp [hs]
theorem cntR_le (rs : List RV) (k : Nat) : cntR rs k ≤ k := by
  unfold cntR
  exact Nat.le_trans (List.length_filter_le _ _) (by rw [List.length_take]; omega)
/-- The files while they fall. -/
structure FallK (n : Nat) (zs : List Int) (rs rs' : List RV) (k : Nat) : Prop where
  len : rs'.length = rs.length
  done : ∀ (j : Nat) r r', j < k → rs[j]? = some r → rs'[j]? = some r' → FellR n zs (cntR rs j) r r'
  todo : ∀ j, k ≤ j → rs'[j]? = rs[j]?
theorem FallK.start (n : Nat) (zs : List Int) (rs : List RV) : FallK n zs rs rs 0 := ⟨rfl, fun j r r' h => by omega, fun j _ => rfl⟩
theorem FallK.split {n : Nat} {zs : List Int} {rs rs' : List RV} {k : Nat} (h : FallK n zs rs rs' k) {r : RV} (hr : rs[k]? = some r) : ∃ a b, rs' = a ++ r :: b ∧ a.length = k := by
  have hk := h.todo k (Nat.le_refl _)
  rw [hr] at hk
  have hlt := (List.getElem?_eq_some_iff.1 hk).1
  refine ⟨rs'.take k, rs'.drop (k + 1), ?_, by rw [List.length_take]; omega⟩
  have e := List.getElem_cons_drop hlt
  rw [(List.getElem?_eq_some_iff.1 hk).2] at e
  rw [e, List.take_append_drop]
theorem FallK.step {n : Nat} {zs : List Int} {rs a b : List RV} {k : Nat} {r r' : RV} (h : FallK n zs rs (a ++ r :: b) k) (hr : rs[k]? = some r) (ha : a.length = k) (hf : FellR n zs (cntR rs k) r r') : FallK n zs rs (a ++ r' :: b) (k + 1) := by
  subst ha
  refine ⟨by have := h.len; simp at this ⊢; exact this, fun j q q' hj hq hq' => ?_, fun j hj => ?_⟩
  · rcases Nat.lt_or_ge j a.length with hlt | hge
    · refine h.done j q q' hlt hq ?_
      rw [List.getElem?_append_left hlt] at hq' ⊢
      exact hq'
    · have : j = a.length := by omega
      subst this
      rw [hr] at hq
      rw [List.getElem?_append_right (Nat.le_refl _)] at hq'
      simp at hq'
      injection hq with hq
      subst hq; subst hq'
      exact hf
  · rw [← h.todo j (by omega), List.getElem?_append_right (by omega), List.getElem?_append_right (by omega)]
    obtain ⟨m, hm⟩ : ∃ m, j - a.length = m + 1 := ⟨j - a.length - 1, by omega⟩
    rw [hm]; rfl
/-- Behind both stores, in Crash's order. -/
theorem both_end2 {w W2 W3 : World} {R G s : Nat} {v u : Value} {r1 r2 : List RV} {r : RV} {most fuse : Int} {dn : Bool} (h : RefAt w R v (r1 ++ r :: r2) most fuse dn) (hG : v.ownBlock = some G) (m : Int) (hm : m = (s : Nat)) (hW2 : W2 = w.setCell ⟨G, r1.length * 3 + 2, none⟩ (.int .i64 m)) (hk : Kept (fun _ => False) W2 W3)
    (hown : W3.ownsRow W2.heap.size 5 1 u s ((r.b.take s).map bv)) (hs : s ≤ r.b.length) :
    RWent w (W3.setCell ⟨G, r1.length * 3 + 1, none⟩ u) R v (r1 ++ r :: r2) v (r1 ++ { r with b := r.b.take s, val := u, safe := s } :: r2) most fuse dn := by
  subst hm
  have hlt : (r.b.take s).length = s := by rw [List.length_take]; omega
  have hG2 : G < w.heap.size := h.lt G (own_rfoot hG)
  have hR2 : R < w.heap.size := h.lt R (by simp [rfoot])
  obtain ⟨hrow, hkG⟩ := rows_set (r' := { r with safe := s }) h.row hG 2 (.int .i64 s) (by omega) rfl
  rw [← hW2] at hrow hkG
  obtain ⟨hrow2, hkG2⟩ := rows_set (r' := { r with b := r.b.take s, val := u, safe := s }) (own_kept hrow hk (by simp)) hG 1 u (by omega) rfl
  have hge := own_ge hown
  have hsz := hkG.size
  refine h.upd hG ((hkG.trans' (hk.mono fun _ _ h => h.elim)).trans' hkG2) hrow2 ⟨?_, by show s ≤ (r.b.take s).length; omega, by have := (h.at_ r (by simp)).len; show (r.b.take s).length ≤ _; omega⟩ fun k e => ?_
  · show (W3.setCell _ _).ownsRow 0 5 1 u (r.b.take s).length _
    rw [hlt]
    exact own_base (own_kept hown hkG2 fun k e e2 => by have := hge k e; omega)
  · have := hge k e
    exact ⟨by omega, by omega, .inr (by omega)⟩
end Go.Proofs.YthkncfdgfbnchaaDoor
end
