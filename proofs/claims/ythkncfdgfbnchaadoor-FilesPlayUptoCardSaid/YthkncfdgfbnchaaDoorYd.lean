import Derived.Test.YthkncfdgfbnchaaDoorYc
/-! courantref16: Sync, Remove, Read. -/
section
set_option linter.unusedVariables false
set_option linter.unusedSimpArgs false
namespace Go.Proofs.YthkncfdgfbnchaaDoor
open Go.RowKit

theorem split_mem {rs : List RV} {r : RV} (h : r ∈ rs) : ∃ r1 r2, rs = r1 ++ r :: r2 := List.append_of_mem h
theorem rfind_ex (s : ByteArray) (w : World) (R : Nat) (v : Value) (rs : List RV) (most fuse : Int) (dn : Bool) (hs : SortedR rs) (h : RefAt w R v rs most fuse dn) :
    ∃ z : Int, Calls Tryd.prog 67 #[.pointer (some ⟨R, 0, none⟩), .string s] w fun e w' => e = .returned (.int .i64 z) ∧ w' = w := by
  by_cases he : ∃ r ∈ rs, r.name = s
  · obtain ⟨r, hr, rfl⟩ := he
    obtain ⟨r1, r2, rfl⟩ := split_mem hr
    exact ⟨_, rfind_some w R v r1 r2 r most fuse dn hs h⟩
  · exact ⟨_, rfind_none s w R v rs most fuse dn (fun r hr e => he ⟨r, hr, e⟩) h⟩
theorem rhit_at {w : World} {R : Nat} {v : Value} {rs : List RV} {most fuse : Int} (h : RefAt w R v rs most fuse false) (b : Bool) (hb : b = decide (fuse = 1)) : Calls Tryd.prog 84 #[.pointer (some ⟨R, 0, none⟩)] w fun e w' => e = .returned (.bool b) ∧ RWent w w' R v rs v rs most (decA fuse) b := by
  refine (rhit_any w R v most fuse h.rb h.fuse0).mono ?_
  rintro e w' ⟨he, hrb, hk⟩
  rw [← hb] at he hrb
  exact ⟨he, h.fields hrb hk h.most0 (decA0 h.fuse0)⟩

/-! ### Sync -/
set_option maxHeartbeats 1000000 in
theorem rsync_down (s : ByteArray) (w : World) (R : Nat) (v : Value) (rs : List RV) (most fuse : Int) (hs : SortedR rs) (h : RefAt w R v rs most fuse true) :
    Calls Tryd.prog 52 #[.pointer (some ⟨R, 0, none⟩), .string s] w (RNo 13 w) := by
  obtain ⟨z, hz⟩ := rfind_ex s w R v rs most fuse true hs h
  have HZ := Lib.hid hz
  have h3 := h.rb.c3
  clear h hs hz
  go_enter Tryd.func52, Tryd.ntmps52
  go_wp2_with (go_at_call 67; refine HZ.out.mono ?_; rintro e w ⟨rfl, rfl⟩)
  go_ret
  exact ⟨rfl, Kept.refl _ _⟩
set_option maxHeartbeats 1000000 in
theorem rsync_none (s : ByteArray) (w : World) (R : Nat) (v : Value) (rs : List RV) (most fuse : Int) (hno : ∀ r ∈ rs, r.name ≠ s) (h : RefAt w R v rs most fuse false) :
    Calls Tryd.prog 52 #[.pointer (some ⟨R, 0, none⟩), .string s] w (RNo 8 w) := by
  have HZ := Lib.hid (rfind_none s w R v rs most fuse false hno h)
  have h3 := h.rb.c3
  clear h hno
  go_enter Tryd.func52, Tryd.ntmps52
  go_wp2_with (go_at_call 67; refine HZ.out.mono ?_; rintro e w ⟨rfl, rfl⟩)
  go_ret
  exact ⟨rfl, Kept.refl _ _⟩
set_option maxHeartbeats 1000000 in
theorem rsync_hit (w : World) (R : Nat) (v : Value) (r1 r2 : List RV) (r : RV) (most : Int) (hs : SortedR (r1 ++ r :: r2)) (h : RefAt w R v (r1 ++ r :: r2) most 1 false) :
    Calls Tryd.prog 52 #[.pointer (some ⟨R, 0, none⟩), .string r.name] w (RGone 13 w R v (r1 ++ r :: r2) (r1 ++ r :: r2) most (decA 1) true) := by
  have HZ := Lib.hid (rfind_some w R v r1 r2 r most 1 false hs h)
  have HH := Lib.hid (rhit_at h true (by simp))
  have h3 := h.rb.c3
  clear h hs
  go_enter Tryd.func52, Tryd.ntmps52
  go_wp2_with (first
    | (go_at_call 67; refine HZ.out.mono ?_; rintro e w ⟨rfl, rfl⟩)
    | (go_at_call 84; refine HH.out.mono ?_; rintro e w1 ⟨rfl, hw⟩; have HW := Lib.hid hw; clear hw))
  go_ret
  exact ⟨rfl, _, HW.out⟩
/-- Behind the store of how many bytes are safe. -/
theorem safe_end {w W3 : World} {R G s : Nat} {v : Value} {r1 r2 : List RV} {r : RV} {most fuse : Int} {dn : Bool} (h : RefAt w R v (r1 ++ r :: r2) most fuse dn) (hG : v.ownBlock = some G) (hk : Kept (fun _ => False) w W3) (hs : s ≤ r.b.length) :
    RWent w (W3.setCell ⟨G, r1.length * 3 + 2, none⟩ (.int .i64 s)) R v (r1 ++ r :: r2) v (r1 ++ { r with safe := s } :: r2) most fuse dn := by
  obtain ⟨hrow, hkG⟩ := rows_set (r' := { r with safe := s }) (own_kept h.row hk (by simp)) hG 2 (.int .i64 s) (by omega) rfl
  have hkk : Kept (fun k => k = G) w (W3.setCell ⟨G, r1.length * 3 + 2, none⟩ (.int .i64 s)) := (hk.mono fun _ _ h => h.elim).trans' hkG
  have hsep := h.sep r (by simp)
  refine h.upd hG hkk hrow ⟨own_kept (h.at_ r (by simp)).own hkk fun k e e2 => (hsep k e).2 (by rw [hG, e2]), hs, (h.at_ r (by simp)).len⟩ fun k e => ⟨(hsep k e).1, fun e2 => (hsep k e).2 (by rw [hG, e2]), .inl e⟩
set_option maxHeartbeats 2000000 in
theorem rsync_ok (w : World) (R : Nat) (v : Value) (r1 r2 : List RV) (r : RV) (most fuse : Int) (ha : fuse ≠ 1) (hs : SortedR (r1 ++ r :: r2)) (h : RefAt w R v (r1 ++ r :: r2) most fuse false) :
    Calls Tryd.prog 52 #[.pointer (some ⟨R, 0, none⟩), .string r.name] w (RGone 0 w R v (r1 ++ r :: r2) (r1 ++ { r with safe := r.b.length } :: r2) most (decA fuse) false) := by
  have HZ := Lib.hid (rfind_some w R v r1 r2 r most fuse false hs h)
  have HH := Lib.hid (rhit_at h false (by simp [ha]))
  have h3 := h.rb.c3
  clear h hs ha
  go_enter Tryd.func52, Tryd.ntmps52
  go_upto_region 8 with (first
    | (go_at_call 67; refine HZ.out.mono ?_; rintro e w ⟨rfl, rfl⟩)
    | (go_at_call 84; refine HH.out.mono ?_; rintro e w1 ⟨rfl, hw⟩; have HW := Lib.hid hw; clear hw))
  obtain ⟨Av, cv, hv, hf⟩ := HW.out.at_.form
  obtain ⟨G, rfl, hG, -, hc1, hc2, hfz⟩ := hf.at_ (show (r1 ++ r :: r2)[r1.length]? = some r by simp)
  obtain ⟨A0, c0, hrv, -, -⟩ := (HW.out.at_.at_ r (by simp)).bs
  rw [hrv] at hc1
  have hf2 := hfz 2 (by omega)
  have h0 := HW.out.at_.rb.c0
  rw [hv] at h0
  have hGR : ¬ G = R := fun e => HW.out.at_.sepR (by rw [hG, e])
  have hRG : ¬ R = G := fun e => hGR e.symm
  obtain ⟨nn, hnn⟩ : ∃ nn, nn = (r1 ++ r :: r2).length := ⟨_, rfl⟩
  obtain ⟨k, hk⟩ : ∃ k, k = r1.length := ⟨_, rfl⟩
  rw [← hnn] at h0
  rw [← hk] at hc1 hc2 hf2 ⊢
  have hkn : (k : Int) < (nn : Int) := by rw [hk, hnn]; simp; omega
  have Hk := Lib.hid hk
  have HG := Lib.hid hG
  have hl9 : (r.b.length : Int) ≤ 4194304 := by have := (HW.out.at_.at_ r (by simp)).len; omega
  clear hv hf hG hfz hrv hnn hk h3
  go_region_law fail
  all_goals go_wp2
  all_goals
    go_ret
    have hE := safe_end (s := r.b.length) HW.out.at_ HG.out ((Kept.refl (fun _ => False) w1).drew) (Nat.le_refl _)
    rw [← Hk.out] at hE
    exact ⟨rfl, _, HW.out.trans hE⟩
end Go.Proofs.YthkncfdgfbnchaaDoor
end

/-! courantref16: Remove, Read. -/
section
set_option linter.unusedVariables false
set_option linter.unusedSimpArgs false
namespace Go.Proofs.YthkncfdgfbnchaaDoor
open Go.RowKit

set_option maxHeartbeats 1000000 in
theorem rremove_down (s : ByteArray) (w : World) (R : Nat) (v : Value) (rs : List RV) (most fuse : Int) (hs : SortedR rs) (h : RefAt w R v rs most fuse true) :
    Calls Tryd.prog 55 #[.pointer (some ⟨R, 0, none⟩), .string s] w (RNo 13 w) := by
  obtain ⟨z, hz⟩ := rfind_ex s w R v rs most fuse true hs h
  have HZ := Lib.hid hz
  have h3 := h.rb.c3
  clear h hs hz
  go_enter Tryd.func55, Tryd.ntmps55
  go_wp2_with (go_at_call 67; refine HZ.out.mono ?_; rintro e w ⟨rfl, rfl⟩)
  go_ret
  exact ⟨rfl, Kept.refl _ _⟩
set_option maxHeartbeats 1000000 in
theorem rremove_none (s : ByteArray) (w : World) (R : Nat) (v : Value) (rs : List RV) (most fuse : Int) (hno : ∀ r ∈ rs, r.name ≠ s) (h : RefAt w R v rs most fuse false) :
    Calls Tryd.prog 55 #[.pointer (some ⟨R, 0, none⟩), .string s] w (RNo 8 w) := by
  have HZ := Lib.hid (rfind_none s w R v rs most fuse false hno h)
  have h3 := h.rb.c3
  clear h hno
  go_enter Tryd.func55, Tryd.ntmps55
  go_wp2_with (go_at_call 67; refine HZ.out.mono ?_; rintro e w ⟨rfl, rfl⟩)
  go_ret
  exact ⟨rfl, Kept.refl _ _⟩
set_option maxHeartbeats 1000000 in
theorem rremove_hit (w : World) (R : Nat) (v : Value) (r1 r2 : List RV) (r : RV) (most : Int) (hs : SortedR (r1 ++ r :: r2)) (h : RefAt w R v (r1 ++ r :: r2) most 1 false) :
    Calls Tryd.prog 55 #[.pointer (some ⟨R, 0, none⟩), .string r.name] w (RGone 13 w R v (r1 ++ r :: r2) (r1 ++ r :: r2) most (decA 1) true) := by
  have HZ := Lib.hid (rfind_some w R v r1 r2 r most 1 false hs h)
  have HH := Lib.hid (rhit_at h true (by simp))
  have h3 := h.rb.c3
  clear h hs
  go_enter Tryd.func55, Tryd.ntmps55
  go_wp2_with (first
    | (go_at_call 67; refine HZ.out.mono ?_; rintro e w ⟨rfl, rfl⟩)
    | (go_at_call 84; refine HH.out.mono ?_; rintro e w1 ⟨rfl, hw⟩; have HW := Lib.hid hw; clear hw))
  go_ret
  exact ⟨rfl, _, HW.out⟩
set_option maxHeartbeats 1000000 in
theorem rremove_ok (w : World) (R : Nat) (v : Value) (r1 r2 : List RV) (r : RV) (most fuse : Int) (ha : fuse ≠ 1) (hs : SortedR (r1 ++ r :: r2)) (h : RefAt w R v (r1 ++ r :: r2) most fuse false) :
    Calls Tryd.prog 55 #[.pointer (some ⟨R, 0, none⟩), .string r.name] w (RGone 0 w R v (r1 ++ r :: r2) (r1 ++ r2) most (decA fuse) false) := by
  have HZ := Lib.hid (rfind_some w R v r1 r2 r most fuse false hs h)
  have HH := Lib.hid (rhit_at h false (by simp [ha]))
  have h3 := h.rb.c3
  clear h hs ha
  go_enter Tryd.func55, Tryd.ntmps55
  go_wp2_with (first
    | (go_at_call 67; refine HZ.out.mono ?_; rintro e w ⟨rfl, rfl⟩)
    | (go_at_call 84; refine HH.out.mono ?_; rintro e w1 ⟨rfl, hw⟩; have HW := Lib.hid hw; clear hw)
    | (go_at_call 86; refine (rcut_any _ R v r1 r2 r most _ _ HW.out.at_).mono ?_; rintro e w2 ⟨rfl, v2, hw⟩; have HW2 := Lib.hid hw; clear hw))
  go_ret
  exact ⟨rfl, _, HW.out.trans HW2.out⟩

/-! ### Read -/
set_option maxHeartbeats 1000000 in
theorem rread_down (s : ByteArray) (w : World) (R : Nat) (v : Value) (rs : List RV) (most fuse : Int) (hs : SortedR rs) (h : RefAt w R v rs most fuse true) :
    Calls Tryd.prog 31 #[.pointer (some ⟨R, 0, none⟩), .string s] w fun e w' => e = .returned (.tuple #[.slice none 0 0, .int .i64 13]) ∧ w' = w := by
  obtain ⟨z, hz⟩ := rfind_ex s w R v rs most fuse true hs h
  have HZ := Lib.hid hz
  have h3 := h.rb.c3
  clear h hs hz
  go_enter Tryd.func31, Tryd.ntmps31
  go_wp2_with (go_at_call 67; refine HZ.out.mono ?_; rintro e w ⟨rfl, rfl⟩)
  go_ret2
  exact ⟨rfl, rfl⟩
set_option maxHeartbeats 1000000 in
theorem rread_none (s : ByteArray) (w : World) (R : Nat) (v : Value) (rs : List RV) (most fuse : Int) (hno : ∀ r ∈ rs, r.name ≠ s) (h : RefAt w R v rs most fuse false) :
    Calls Tryd.prog 31 #[.pointer (some ⟨R, 0, none⟩), .string s] w fun e w' => e = .returned (.tuple #[.slice none 0 0, .int .i64 8]) ∧ w' = w := by
  have HZ := Lib.hid (rfind_none s w R v rs most fuse false hno h)
  have h3 := h.rb.c3
  clear h hno
  go_enter Tryd.func31, Tryd.ntmps31
  go_wp2_with (go_at_call 67; refine HZ.out.mono ?_; rintro e w ⟨rfl, rfl⟩)
  go_ret2
  exact ⟨rfl, rfl⟩
set_option maxHeartbeats 1000000 in
theorem rread_some (w : World) (R : Nat) (v : Value) (r1 r2 : List RV) (r : RV) (most fuse : Int) (hs : SortedR (r1 ++ r :: r2)) (h : RefAt w R v (r1 ++ r :: r2) most fuse false) :
    Calls Tryd.prog 31 #[.pointer (some ⟨R, 0, none⟩), .string r.name] w fun e w' => ∃ u, e = .returned (.tuple #[u, .int .i64 0]) ∧ w'.ownsRow w.heap.size 5 1 u r.b.length (r.b.map bv) ∧ Kept (fun _ => False) w w' := by
  have HZ := Lib.hid (rfind_some w R v r1 r2 r most fuse false hs h)
  have h3 := h.rb.c3
  obtain ⟨Av, cv, rfl, hf⟩ := h.form
  obtain ⟨G, rfl, hG, -, hc1, -, -⟩ := hf.at_ (show (r1 ++ r :: r2)[r1.length]? = some r by simp)
  obtain ⟨A0, c0, hrv, hbs, hA0⟩ := (h.at_ r (by simp)).bs
  rw [hrv] at hc1
  have h0 := h.rb.c0
  obtain ⟨nn, hnn⟩ : ∃ nn, nn = (r1 ++ r :: r2).length := ⟨_, rfl⟩
  obtain ⟨k, hk⟩ : ∃ k, k = r1.length := ⟨_, rfl⟩
  rw [← hnn] at h0
  rw [← hk] at hc1 HZ
  have hkn : (k : Int) < (nn : Int) := by rw [hk, hnn]; simp; omega
  have HC := Lib.hid (copy_any w A0 r.b.length c0 r.b rfl (by have := (h.at_ r (by simp)).len; omega) hbs hA0)
  clear h hs hf hG hrv hbs hA0 hnn hk
  go_enter Tryd.func31, Tryd.ntmps31
  go_wp2_with (first
    | (go_at_call 67; refine HZ.out.mono ?_; rintro e w ⟨rfl, rfl⟩)
    | (go_at_call 20; refine HC.out.mono ?_; rintro e w1 ⟨u, rfl, hown, hk⟩; have HO := Lib.hid hown; have HK := Lib.hid hk; clear hown hk))
  go_ret2
  exact ⟨u, rfl, HO.out, HK.out⟩
end Go.Proofs.YthkncfdgfbnchaaDoor
end

/-! courantref16: Truncate. -/
section
set_option linter.unusedVariables false
set_option linter.unusedSimpArgs false
namespace Go.Proofs.YthkncfdgfbnchaaDoor
open Go.RowKit

set_option maxHeartbeats 1000000 in
theorem rtrunc_down (s : ByteArray) (n : Int) (w : World) (R : Nat) (v : Value) (rs : List RV) (most fuse : Int) (hs : SortedR rs) (h : RefAt w R v rs most fuse true) :
    Calls Tryd.prog 53 #[.pointer (some ⟨R, 0, none⟩), .string s, .int .i64 n] w (RNo 13 w) := by
  obtain ⟨z, hz⟩ := rfind_ex s w R v rs most fuse true hs h
  have HZ := Lib.hid hz
  have h3 := h.rb.c3
  clear h hs hz
  go_enter Tryd.func53, Tryd.ntmps53
  go_wp2_with (go_at_call 67; refine HZ.out.mono ?_; rintro e w ⟨rfl, rfl⟩)
  go_ret
  exact ⟨rfl, Kept.refl _ _⟩
set_option maxHeartbeats 1000000 in
theorem rtrunc_none (s : ByteArray) (n : Int) (w : World) (R : Nat) (v : Value) (rs : List RV) (most fuse : Int) (hno : ∀ r ∈ rs, r.name ≠ s) (h : RefAt w R v rs most fuse false) :
    Calls Tryd.prog 53 #[.pointer (some ⟨R, 0, none⟩), .string s, .int .i64 n] w (RNo 8 w) := by
  have HZ := Lib.hid (rfind_none s w R v rs most fuse false hno h)
  have h3 := h.rb.c3
  clear h hno
  go_enter Tryd.func53, Tryd.ntmps53
  go_wp2_with (go_at_call 67; refine HZ.out.mono ?_; rintro e w ⟨rfl, rfl⟩)
  go_ret
  exact ⟨rfl, Kept.refl _ _⟩
set_option maxHeartbeats 1000000 in
theorem rtrunc_bad (n : Int) (w : World) (R : Nat) (v : Value) (r1 r2 : List RV) (r : RV) (most fuse : Int) (hn : n < 0 ∨ (r.b.length : Int) < n) (hs : SortedR (r1 ++ r :: r2)) (h : RefAt w R v (r1 ++ r :: r2) most fuse false) :
    Calls Tryd.prog 53 #[.pointer (some ⟨R, 0, none⟩), .string r.name, .int .i64 n] w (RNo 1 w) := by
  have HZ := Lib.hid (rfind_some w R v r1 r2 r most fuse false hs h)
  have h3 := h.rb.c3
  obtain ⟨Av, cv, rfl, hf⟩ := h.form
  obtain ⟨G, rfl, hG, -, hc1, -, -⟩ := hf.at_ (show (r1 ++ r :: r2)[r1.length]? = some r by simp)
  obtain ⟨A0, c0, hrv, hbs, hA0⟩ := (h.at_ r (by simp)).bs
  rw [hrv] at hc1
  have h0 := h.rb.c0
  obtain ⟨nn, hnn⟩ : ∃ nn, nn = (r1 ++ r :: r2).length := ⟨_, rfl⟩
  obtain ⟨k, hk⟩ : ∃ k, k = r1.length := ⟨_, rfl⟩
  rw [← hnn] at h0
  rw [← hk] at hc1 HZ
  have hkn : (k : Int) < (nn : Int) := by rw [hk, hnn]; simp; omega
  clear h hs hf hG hrv hbs hA0 hnn hk
  by_cases hneg : n < 0
  · clear hn
    go_enter Tryd.func53, Tryd.ntmps53
    go_wp2_with (go_at_call 67; refine HZ.out.mono ?_; rintro e w ⟨rfl, rfl⟩)
    go_ret
    exact ⟨rfl, Kept.refl _ _⟩
  · have hn' : (r.b.length : Int) < n := hn.resolve_left hneg
    clear hn
    go_enter Tryd.func53, Tryd.ntmps53
    go_wp2_with (go_at_call 67; refine HZ.out.mono ?_; rintro e w ⟨rfl, rfl⟩)
    go_ret
    exact ⟨rfl, Kept.refl _ _⟩
set_option maxHeartbeats 1000000 in
theorem rtrunc_hit (n : Nat) (w : World) (R : Nat) (v : Value) (r1 r2 : List RV) (r : RV) (most : Int) (hn : n ≤ r.b.length) (hs : SortedR (r1 ++ r :: r2)) (h : RefAt w R v (r1 ++ r :: r2) most 1 false) :
    Calls Tryd.prog 53 #[.pointer (some ⟨R, 0, none⟩), .string r.name, .int .i64 n] w (RGone 13 w R v (r1 ++ r :: r2) (r1 ++ r :: r2) most (decA 1) true) := by
  have HZ := Lib.hid (rfind_some w R v r1 r2 r most 1 false hs h)
  have HH := Lib.hid (rhit_at h true (by simp))
  have h3 := h.rb.c3
  obtain ⟨Av, cv, hv, hf⟩ := h.form
  obtain ⟨G, rfl, hG, -, hc1, -, -⟩ := hf.at_ (show (r1 ++ r :: r2)[r1.length]? = some r by simp)
  obtain ⟨A0, c0, hrv, hbs, hA0⟩ := (h.at_ r (by simp)).bs
  rw [hrv] at hc1
  have h0 := h.rb.c0
  rw [hv] at h0
  obtain ⟨nn, hnn⟩ : ∃ nn, nn = (r1 ++ r :: r2).length := ⟨_, rfl⟩
  obtain ⟨k, hk⟩ : ∃ k, k = r1.length := ⟨_, rfl⟩
  rw [← hnn] at h0
  rw [← hk] at hc1 HZ
  have hkn : (k : Int) < (nn : Int) := by rw [hk, hnn]; simp; omega
  have hn9 : ¬ (r.b.length : Int) < (n : Int) := by omega
  clear h hs hv hf hG hrv hbs hA0 hnn hk
  go_enter Tryd.func53, Tryd.ntmps53
  go_wp2_with (first
    | (go_at_call 67; refine HZ.out.mono ?_; rintro e w ⟨rfl, rfl⟩)
    | (go_at_call 84; refine HH.out.mono ?_; rintro e w1 ⟨rfl, hw⟩; have HW := Lib.hid hw; clear hw))
  go_ret
  exact ⟨rfl, _, HW.out⟩
theorem cell_off (w : World) (G i j : Nat) (u : Value) (h : i ≠ j) : (w.setCell ⟨G, i, none⟩ u).cell? ⟨G, j, none⟩ = w.cell? ⟨G, j, none⟩ := by
  apply World.cell?_setCell_other
  intro e
  injection e with _ e
  exact h e
/-- Behind both stores: a file's bytes, and how many are safe. -/
theorem both_end {w W3 W5 : World} {R G s : Nat} {v u : Value} {r1 r2 : List RV} {r : RV} {most fuse : Int} {dn : Bool} {ys : List UInt8} {base : Nat} (h : RefAt w R v (r1 ++ r :: r2) most fuse dn) (hG : v.ownBlock = some G) (hk : Kept (fun _ => False) w W3)
    (hown : W3.ownsRow base 5 1 u ys.length (ys.map bv)) (hb : w.heap.size ≤ base) (hk5 : Kept (fun _ => False) (W3.setCell ⟨G, r1.length * 3 + 1, none⟩ u) W5) (m : Int) (hm : m = (s : Nat)) (hs : s ≤ ys.length) (hl : ys.length ≤ 4194304) :
    RWent w (W5.setCell ⟨G, r1.length * 3 + 2, none⟩ (.int .i64 m)) R v (r1 ++ r :: r2) v (r1 ++ { r with b := ys, val := u, safe := s } :: r2) most fuse dn := by
  subst hm
  have hG2 : G < w.heap.size := h.lt G (own_rfoot hG)
  have hR2 : R < w.heap.size := h.lt R (by simp [rfoot])
  have hge := own_ge hown
  obtain ⟨hrow, hkG⟩ := rows_set (r' := { r with b := ys, val := u }) (own_kept h.row hk (by simp)) hG 1 u (by omega) rfl
  obtain ⟨hrow2, hkG2⟩ := rows_set (r' := { r with b := ys, val := u, safe := s }) (own_kept hrow hk5 (by simp)) hG 2 (.int .i64 s) (by omega) rfl
  have hk2 : Kept (fun k => k = G) W3 (W5.setCell ⟨G, r1.length * 3 + 2, none⟩ (.int .i64 s)) := (hkG.trans' (hk5.mono fun _ _ h => h.elim)).trans' hkG2
  refine h.upd hG ((hk.mono fun _ _ h => h.elim).trans' hk2) hrow2 ⟨own_base (own_kept hown hk2 fun k e e2 => by have := hge k e; omega), hs, hl⟩ fun k e => ?_
  have := hge k e
  exact ⟨by omega, by omega, .inr (by omega)⟩
set_option maxRecDepth 100000 in
set_option maxHeartbeats 4000000 in
theorem rtrunc_ok (n : Nat) (w : World) (R : Nat) (v : Value) (r1 r2 : List RV) (r : RV) (most fuse : Int) (hn : n ≤ r.b.length) (ha : fuse ≠ 1) (hs : SortedR (r1 ++ r :: r2)) (h : RefAt w R v (r1 ++ r :: r2) most fuse false) :
    Calls Tryd.prog 53 #[.pointer (some ⟨R, 0, none⟩), .string r.name, .int .i64 n] w fun e w' => ∃ u, RGone 0 w R v (r1 ++ r :: r2) (r1 ++ { r with b := r.b.take n, val := u, safe := min n r.safe } :: r2) most (decA fuse) false e w' := by
  have HZ := Lib.hid (rfind_some w R v r1 r2 r most fuse false hs h)
  have HH := Lib.hid (rhit_at h false (by simp [ha]))
  have h3 := h.rb.c3
  obtain ⟨Av, cv, hv, hf⟩ := h.form
  obtain ⟨G, rfl, hG, -, hc1, hc2, hfz⟩ := hf.at_ (show (r1 ++ r :: r2)[r1.length]? = some r by simp)
  obtain ⟨A0, c0, hrv, hbs, hA0⟩ := (h.at_ r (by simp)).bs
  have hcap : r.b.length ≤ c0 := by have := (h.at_ r (by simp)).own; rw [hrv] at this; exact (own_cap this).1
  rw [hrv] at hc1
  have h0 := h.rb.c0
  rw [hv] at h0
  obtain ⟨nn, hnn⟩ : ∃ nn, nn = (r1 ++ r :: r2).length := ⟨_, rfl⟩
  obtain ⟨k, hk⟩ : ∃ k, k = r1.length := ⟨_, rfl⟩
  rw [← hnn] at h0
  have Hk := Lib.hid hk
  have HG := Lib.hid hG
  have hGR : ¬ G = R := fun e => h.sepR (by rw [hG, e])
  have hRG : ¬ R = G := fun e => hGR e.symm
  have hf1 := hfz 1 (by omega)
  have hf2 := hfz 2 (by omega)
  rw [← hk] at hc1 hc2 hf1 hf2 HZ
  have hkn : (k : Int) < (nn : Int) := by rw [hk, hnn]; simp; omega
  have hn9 : ¬ (r.b.length : Int) < (n : Int) := by omega
  have hnc : (n : Int) ≤ (c0 : Int) := by omega
  have hlen : (r.b.length : Int) ≤ 4194304 := by have := (h.at_ r (by simp)).len; omega
  have Hsafe := Lib.hid (h.at_ r (by simp)).safe
  have Hn := Lib.hid hn
  have H := Lib.hid h
  have HRV := Lib.hid hrv
  have HVV := Lib.hid hv
  have Hnn := Lib.hid hnn
  clear h hs hv hf hG hrv hbs hA0 hnn hk hcap hn hfz ha
  go_enter Tryd.func53, Tryd.ntmps53
  go_upto_region 10 with (first
    | (go_at_call 67; refine HZ.out.mono ?_; rintro e w ⟨rfl, rfl⟩)
    | (go_at_call 84; refine HH.out.mono ?_; rintro e w1 ⟨rfl, hw⟩; have HW := Lib.hid hw; clear hw))
  obtain ⟨Av2, cv2, hv2, hf2'⟩ := HW.out.at_.form
  rw [HVV.out] at hv2
  injection hv2 with e1 _ e3
  subst e1; subst e3
  obtain ⟨G2, hG2, -, -, hd1, hd2, hdz⟩ := hf2'.at_ (show (r1 ++ r :: r2)[r1.length]? = some r by simp)
  injection hG2 with hG2
  injection hG2 with hG2
  subst hG2
  rw [← Hk.out] at hd1 hd2 hdz
  rw [HRV.out] at hd1
  obtain ⟨A9, c9, hrv9, hbs9, hA9⟩ := (HW.out.at_.at_ r (by simp)).bs
  rw [HRV.out] at hrv9
  injection hrv9 with e1 _ e3
  subst e1; subst e3
  have HBs := Lib.hid hbs9
  have HA9 := Lib.hid hA9
  have hz1 := hdz 1 (by omega)
  have hz2 := hdz 2 (by omega)
  have g0 := HW.out.at_.rb.c0
  rw [HVV.out, ← Hnn.out] at g0
  clear hf2' hdz hbs9 hA9 hc1 hc2 hf1 hf2 h0 h3
  have HS0 : Hid (∀ W, Kept (fun _ => False) w1 W → W.cell? ⟨R, 0, none⟩ = some (.slice (some ⟨G, 0, none⟩) nn cv) ∧ W.cell? ⟨G, k * 3 + 1, none⟩ = some (.slice A0 r.b.length c0) ∧ W.cell? ⟨G, k * 3 + 2, none⟩ = some (.int .i64 (r.safe : Nat)) ∧ W.frozen? ⟨G, k * 3 + 1, none⟩ = false ∧ W.frozen? ⟨G, k * 3 + 2, none⟩ = false) := Lib.hid fun W hW => by
    have hlt : G < w1.heap.size := World.block_lt_of_cell? w1 ⟨G, k * 3 + 1, none⟩ hd1
    refine ⟨hW.cell g0 (by simp), hW.cell hd1 (by simp), hW.cell hd2 (by simp), ?_, ?_⟩
    · rw [← hz1]; exact World.frozen?_of_block (hW.block G hlt (by simp))
    · rw [← hz2]; exact World.frozen?_of_block (hW.block G hlt (by simp))
  go_region_law (first
    | (go_simp; go_at_call 20; refine (copy_any _ A0 n c0 (r.b.take n) (by rw [List.length_take]; have := Hn.out; omega) (by omega) ⟨fun e => by have := HBs.out.1 e; simp [this], fun ad e j u hu => (HBs.out.kept ((Kept.refl (fun _ => False) w1).drew) (by simp)).2 ad e j u (by rw [List.map_take, List.getElem?_take] at hu; split at hu; exact hu; cases hu)⟩ HA9.out).mono ?_; rintro e w4 ⟨v4, rfl, hown, hk4⟩; rw [show (r.b.take n).length = n by rw [List.length_take]; have := Hn.out; omega] at hown; obtain ⟨A4, c4, rfl⟩ := own_slice hown; have HV4 := Lib.hid hown; have HK4 := Lib.hid (((Kept.refl (fun _ => False) w1).drew).trans' hk4); obtain ⟨hs4, hc4, hd4, hf4, hg4⟩ := HS0.out _ HK4.out; clear hown hk4))
  all_goals
    go_upto_region 11 with fail
    obtain ⟨W5, hW5⟩ : ∃ W5, W5 = w4.setCell ⟨G, k * 3 + 1, none⟩ (.slice A4 n c4) := ⟨_, rfl⟩
    have q0 : W5.cell? ⟨R, 0, none⟩ = some (.slice (some ⟨G, 0, none⟩) nn cv) := by rw [hW5]; exact (kF w4 G _ _).cell hs4 hRG
    have q2 : W5.cell? ⟨G, k * 3 + 2, none⟩ = some (.int .i64 (r.safe : Nat)) := by rw [hW5, cell_off w4 G (k * 3 + 1) (k * 3 + 2) _ (by omega)]; exact hd4
    have qf : W5.frozen? ⟨G, k * 3 + 2, none⟩ = false := by rw [hW5, World.frozen?_setCell]; exact hg4
    rw [← hW5]
    have HW5 := Lib.hid hW5
    clear hW5 hs4 hc4 hd4 hf4 hg4
  all_goals go_region_law fail
  all_goals go_wp2
  all_goals
    go_ret
    have hlt : (r.b.take n).length = n := by rw [List.length_take]; have := Hn.out; omega
    have hE := both_end (ys := r.b.take n) (s := min n r.safe) (W5 := W5.drew) HW.out.at_ HG.out HK4.out (by rw [hlt]; exact HV4.out) (Nat.le_refl _) (by rw [← Hk.out, ← HW5.out]; exact (Kept.refl _ W5).drew) _ (show min (n : Int) (r.safe : Int) = _ by omega) (by rw [hlt]; omega) (by rw [hlt]; have := Hn.out; omega)
    rw [← Hk.out] at hE
    exact ⟨_, rfl, _, HW.out.trans hE⟩
end Go.Proofs.YthkncfdgfbnchaaDoor
end

/-! courantref16: Names. -/
section
set_option linter.unusedVariables false
set_option linter.unusedSimpArgs false
namespace Go.Proofs.YthkncfdgfbnchaaDoor
open Go.RowKit

theorem infoStr : (Tryd.prog.info? 9).map (fun i => (i.zero, i.size, i.bytes)) = some (some (.string ⟨#[]⟩), 1, 16) := by kernel_rfl
def nmv (r : RV) : Value := .string r.name
theorem names_snoc (rs : List RV) (k : Nat) (r : RV) (h : rs[k]? = some r) : (rs.take (k + 1)).map nmv = (rs.take k).map nmv ++ [.string r.name] := by
  rw [List.take_add_one, h, List.map_append]; rfl
set_option maxRecDepth 100000 in
set_option maxHeartbeats 4000000 in
theorem rnames_any (w : World) (R : Nat) (v : Value) (rs : List RV) (most fuse : Int) (dn : Bool) (h : RefAt w R v rs most fuse dn) :
    Calls Tryd.prog 30 #[.pointer (some ⟨R, 0, none⟩)] w fun e w' => ∃ u, e = .returned u ∧ w'.ownsRow w.heap.size 9 1 u rs.length (rs.map nmv) ∧ Kept (fun _ => False) w w' := by
  obtain ⟨i0, hi, hz0, hz1, hz2⟩ := info_parts infoStr
  obtain ⟨A, c, hv, hf⟩ := h.form
  have h0 := h.rb.c0
  rw [hv] at h0
  obtain ⟨n, hn⟩ : ∃ n, n = rs.length := ⟨_, rfl⟩
  have Hn := Lib.hid hn
  have HR := Lib.hid hf
  have hn9 : (n : Int) ≤ 1000 := by have := h.few; omega
  rw [← hn] at h0
  have H0 : Hid (∀ W, Kept (fun _ => False) w W → W.cell? ⟨R, 0, none⟩ = some (.slice A n c)) := Lib.hid fun W hW => hW.cell h0 (by simp)
  clear h hf hn hv h0
  go_enter Tryd.func30, Tryd.ntmps30
  go_wp2_with fail
  go_loopw [3, 4] (fun l i wr => ∃ k : Nat, k ≤ n ∧ i = .int .i64 k ∧ Hid (wr.ownsRow w.heap.size 9 1 l k ((rs.take k).map nmv)) ∧ Hid (Kept (fun _ => False) w wr)) (fun _ i _ => n - (intOf i).toNat)
  case atStart => exact ⟨0, by omega, rfl, Lib.hid (World.ownsRow_nil _ _ _ _), Lib.hid (Kept.refl _ _)⟩
  case round =>
    obtain ⟨k, hk, rfl, ho, hK⟩ := hrel
    have h0 := H0.out _ hK.out
    by_cases hlt : k < n
    · have hk9 : (k : Int) < (n : Int) := by omega
      obtain ⟨r, hr⟩ : ∃ r, rs[k]? = some r := ⟨_, List.getElem?_eq_getElem (by have := Hn.out; omega)⟩
      obtain ⟨G, rfl, -, hc0, -, -, -⟩ := HR.out.at_ hr
      have hc0 := hK.out.cell hc0 (by simp)
      have Hs := Lib.hid (names_snoc rs k r hr)
      have Ha : Hid (Kept (fun _ => False) w (wr.alloc (.cells #[.string r.name] 9))) := Lib.hid (hK.out.alloc _)
      clear hr
      go_wp2_with (at_builtin; refine wpList_append_own _ rfl _ _ 53 rfl w.heap.size 9 i0 (.string ⟨#[]⟩) 1 16 Tryd.underlying53 hi hz0 hz1 hz2 rfl (by decide) _ k _ rfl (own_kept ho.out ((Kept.refl (fun _ => False) wr).alloc _) (by simp)) _ 1 1 [.string r.name] rfl rfl ((cs_new wr [.string r.name] 9).2 _ rfl) (by simp [Value.oneCell']) (by unfold maxLen; omega) (by omega) Ha.out.size ?_; intro v' w1 hown hgrow hnil; have HO := Lib.hid hown; have HK1 := Lib.hid (Ha.out.grown hgrow (fun q e hq => by have := own_ge ho.out q e; omega)); clear hown hgrow hnil)
      go_roundw
      case rel => exact ⟨k + 1, by omega, by go_num, Lib.hid (by rw [Hs.out]; exact HO.out), HK1⟩
      case measure => simp [intOf]; omega
    · obtain rfl : k = n := by omega
      have HO := Lib.hid ho.out
      rw [Hn.out, List.take_length] at HO
      go_wp2
      go_ret
      exact ⟨_, rfl, HO.out, hK.out⟩
end Go.Proofs.YthkncfdgfbnchaaDoor
end
