import Derived.Test.YthkncfdgfbnchaaDoorZa
/-! keyed.Bytes: pairs as bytes. -/
section
set_option linter.unusedVariables false
set_option linter.unusedSimpArgs false
namespace Go.Proofs.YthkncfdgfbnchaaDoor
open Go.RowKit

theorem pairs_le (ps : List PV) : ps.length ≤ (ps.flatMap pairB).length := by
  induction ps with
  | nil => simp
  | cons q qs ih =>
    have : 1 ≤ (pairB q).length := by unfold pairB; split <;> simp <;> omega
    rw [List.flatMap_cons, List.length_append, List.length_cons]; omega
theorem bytesP_le {ps : List PV} {n m : Nat} (hn : n = ps.length) (h : (bytesP ps).length ≤ m) : n ≤ m := by
  have := pairs_le ps
  simp only [bytesP, List.length_append] at h
  omega
theorem part_le {ps : List PV} {k m : Nat} {p : PV} (hp : ps[k]? = some p) (h : (bytesP ps).length ≤ m) : (zigB ps.length).length + ((ps.take k).flatMap pairB).length + (pairB p).length ≤ m := by
  have h1 := flat_le ps (k + 1)
  rw [flat_snoc ps k p hp, List.length_append] at h1
  simp only [bytesP, List.length_append] at h
  omega
theorem num_le {ps : List PV} {n k m : Nat} {key : ByteArray} {b : List UInt8} {gone : Bool} {pA : Option Addr} {pc : Nat} (hn : n = ps.length) (hp : ps[k]? = some ⟨key, b, gone, pA, pc⟩) (h : (bytesP ps).length ≤ m) :
    (zigB n ++ (ps.take k).flatMap pairB).length + (textB (kb key)).length + 2 ≤ m ∧ (gone = false → (zigB n ++ (ps.take k).flatMap pairB).length + (textB (kb key)).length + 1 + (textB b).length ≤ m) := by
  have := part_le hp h
  subst hn
  simp only [List.length_append]
  cases gone
  · simp only [pairB, List.length_append, if_false, Bool.false_eq_true, List.length_cons] at this
    have h2 : 1 ≤ (textB b).length := by
      have := (numB_len (2 * b.length)).1
      rw [textB_len]; unfold zigB; omega
    exact ⟨by omega, fun _ => by omega⟩
  · simp only [pairB, List.length_append, if_true, List.length_cons, List.length_nil] at this
    exact ⟨by omega, fun e => by cases e⟩
theorem textB_nil_len : (textB []).length = 1 := by decide
theorem textB_ge (b : List UInt8) : b.length ≤ (textB b).length := by rw [textB_len]; omega
set_option maxRecDepth 100000 in
set_option maxHeartbeats 8000000 in
theorem kBytes_any (w : World) (A : Option Addr) (n c : Nat) (ps : List PV) (hn : n = ps.length) (hl : (bytesP ps).length ≤ 100000000) (h : PsAt w A ps) : Calls Tryd.prog 71 #[.slice A n c] w (ClonePost w (bytesP ps)) := by
  have H := Lib.hid h
  have Hn := Lib.hid hn
  have hn9 : n ≤ 100000000 := bytesP_le hn hl
  have hn8 : (n : Int) ≤ 100000000 := by omega
  have HZ := Lib.hid (codeZig_any w n (by omega))
  have HL := Lib.hid hl
  clear h hn hl
  go_enter Tryd.func71, Tryd.ntmps71
  go_wp2_with (go_at_call 98; refine HZ.out.mono ?_; rintro e w1 hP; obtain ⟨Az, cz, rfl, ha, -, -⟩ := ClonePost.acc hP; have HA := Lib.hid ha; clear hP ha)
  go_loopw [3, 11] (fun l i wr => ∃ k : Nat, k ≤ n ∧ i = .int .i64 k ∧ Hid (Acc w wr l (zigB n ++ (ps.take k).flatMap pairB))) (fun _ i _ => n - (intOf i).toNat)
  case atStart => exact ⟨0, by omega, rfl, Lib.hid (by simpa using HA.out)⟩
  case round =>
    obtain ⟨k, hk, rfl, ho⟩ := hrel
    by_cases hlt : k < n
    · have hk9 : (k : Int) < (n : Int) := by omega
      obtain ⟨p, hp⟩ : ∃ p, ps[k]? = some p := ⟨_, List.getElem?_eq_getElem (by have := Hn.out; omega)⟩
      obtain ⟨ad, rfl, hc, hok⟩ := H.out k p hp
      have hc0 := ho.out.2.cell hc.c0 (by simp)
      have hc1 := ho.out.2.cell hc.c1 (by simp)
      have hc2 := ho.out.2.cell hc.c2 (by simp)
      have Hs := Lib.hid (flat_snoc ps k _ hp)
      have Hok := Lib.hid hok
      obtain ⟨D, hD⟩ : ∃ D, D = wr.heap.size := ⟨_, rfl⟩
      obtain ⟨W0, hW0⟩ : ∃ W0, W0 = wr.alloc (.cells #[.string p.key, .slice p.A p.b.length p.c, .bool p.gone] 77) := ⟨_, rfl⟩
      have HB0 : Hid (BoxP W0 D p) := Lib.hid (by rw [hW0, hD]; exact boxP_new wr p)
      have HA0 : Hid (Acc w W0 u3 (zigB n ++ (ps.take k).flatMap pairB)) := Lib.hid (by rw [hW0]; exact ho.out.stay ((Kept.refl _ wr).alloc _))
      obtain ⟨c9, W9, hcv, hB9, hK9⟩ := str_bytes W0 p.key
      have HB9 := Lib.hid hB9
      have HX9 := Lib.hid (HB0.out.kept hK9 (by simp))
      have HA9 := Lib.hid (HA0.out.stay hK9)
      have d0 := HB0.out.c0
      obtain ⟨key, b, gone, pA, pc⟩ := p
      have HN := Lib.hid (num_le Hn.out hp HL.out)
      obtain ⟨xs0, hxs0⟩ : ∃ xs0, xs0 = zigB n ++ (ps.take k).flatMap pairB := ⟨_, rfl⟩
      rw [← hxs0] at HN HA0 HA9
      have Hxs := Lib.hid hxs0
      simp only [PV.val] at hc0 hc1 hc2
      clear hc hp hok hB9 hK9 ho hxs0
      go_upto_region 5 with fail
      rw [← hD, ← hW0]
      have Hx : Hid (W0.heap.size = W0.heap.size) := Lib.hid rfl
      clear hW0 hD hc0 hc1 hc2
      have HN1 := Lib.hid HN.out.1
      cases gone
      · have HN2 := Lib.hid (HN.out.2 rfl)
        clear HN
        go_wp2_with (first
          | (at_builtin; refine wpList_append_acc rfl _ _ rfl _ _ rfl HA13.out _ _ _ _ rfl HB13.out rfl HC13.out (by have := HN2.out; simp only [List.length_append, List.length_cons, List.length_nil]; omega) ?_; intro v4 w14 ha hg; have HA14 := Lib.hid ha; clear ha hg)
          | (go_at_call 99; refine (codeText_any _ pA b.length pc b rfl (by have := HN2.out; have := textB_ge b; omega) (Hok.out.1.kept HA12.out.2 (by simp)) Hok.out.2).mono ?_; rintro e w13 hP; obtain ⟨A13, c13, rfl, ha, hb, hc⟩ := ClonePost.acc hP; have HA13 := Lib.hid (HA12.out.stay ha.2); have HB13 := Lib.hid hb; have HC13 := Lib.hid hc; clear hP ha hb hc)
          | (at_builtin; refine wpList_append_acc rfl _ _ rfl _ _ rfl (HA11.out.stay ((Kept.refl _ _).alloc _)) _ 1 1 [0] rfl (bs_new _ _ _ rfl _) rfl (fun e => by cases e) (by have := HN1.out; simp only [List.length_append, List.length_cons, List.length_nil]; omega) ?_; intro v2 w12 ha hg; have HA12 := Lib.hid ha; have HX12 := Lib.hid ((HX11.out.kept ((Kept.refl (fun _ => False) _).alloc _) (by simp)).grown (HA11.out.stay ((Kept.refl _ _).alloc _)) hg); have e1 := HX12.out.c1; (try dsimp only [PV.val] at e1); clear ha hg)
          | (at_builtin; refine wpList_append_acc rfl _ _ rfl _ _ rfl HA10.out _ _ _ _ rfl HB10.out rfl HC10.out (by have := HN1.out; omega) ?_; intro v1 w11 ha hg; have HA11 := Lib.hid ha; have HX11 := Lib.hid (HX10.out.grown HA10.out hg); have e2 := HX11.out.c2; clear ha hg)
          | (go_at_call 99; refine (codeText_any W9 _ key.size c9 (kb key) (kb_size key).symm (by have := HN1.out; have := textB_ge (kb key); rw [kb_size] at this; omega) HB9.out (fun e => by cases e)).mono ?_; rintro e w10 hP; obtain ⟨A10, c10, rfl, ha, hb, hc⟩ := ClonePost.acc hP; have HA10 := Lib.hid (HA9.out.stay ha.2); have HX10 := Lib.hid (HX9.out.kept ha.2 (by simp)); have HB10 := Lib.hid hb; have HC10 := Lib.hid hc; clear hP ha hb hc))
        go_roundw
        case rel =>
          refine ⟨k + 1, by omega, by go_num, Lib.hid ?_⟩
          have := HA14.out
          rw [Hs.out, pairB]
          simpa [Hxs.out, List.append_assoc] using this
        case measure => simp [intOf]; omega
      · clear HN
        go_wp2_with (first
          | (at_builtin; refine wpList_append_acc rfl _ _ rfl _ _ rfl HA13.out _ _ _ _ rfl HB13.out rfl HC13.out (by have := HN1.out; have h9 := textB_nil_len; simp only [List.length_append, List.length_cons, List.length_nil]; omega) ?_; intro v4 w14 ha hg; have HA14 := Lib.hid ha; clear ha hg)
          | (go_at_call 99; refine (codeText_any _ none 0 0 [] rfl (by omega) (Bs.nil _ _) (fun _ => rfl)).mono ?_; rintro e w13 hP; obtain ⟨A13, c13, rfl, ha, hb, hc⟩ := ClonePost.acc hP; have HA13 := Lib.hid (HA12.out.stay ha.2); have HB13 := Lib.hid hb; have HC13 := Lib.hid hc; clear hP ha hb hc)
          | (at_builtin; refine wpList_append_acc rfl _ _ rfl _ _ rfl (HA11.out.stay ((Kept.refl _ _).alloc _)) _ 1 1 [1] rfl (bs_new _ _ _ rfl _) rfl (fun e => by cases e) (by have := HN1.out; simp only [List.length_append, List.length_cons, List.length_nil]; omega) ?_; intro v2 w12 ha hg; have HA12 := Lib.hid ha; have HX12 := Lib.hid ((HX11.out.kept ((Kept.refl (fun _ => False) _).alloc _) (by simp)).grown (HA11.out.stay ((Kept.refl _ _).alloc _)) hg); clear ha hg)
          | (at_builtin; refine wpList_append_acc rfl _ _ rfl _ _ rfl HA10.out _ _ _ _ rfl HB10.out rfl HC10.out (by have := HN1.out; omega) ?_; intro v1 w11 ha hg; have HA11 := Lib.hid ha; have HX11 := Lib.hid (HX10.out.grown HA10.out hg); have e2 := HX11.out.c2; clear ha hg)
          | (go_at_call 99; refine (codeText_any W9 _ key.size c9 (kb key) (kb_size key).symm (by have := HN1.out; have := textB_ge (kb key); rw [kb_size] at this; omega) HB9.out (fun e => by cases e)).mono ?_; rintro e w10 hP; obtain ⟨A10, c10, rfl, ha, hb, hc⟩ := ClonePost.acc hP; have HA10 := Lib.hid (HA9.out.stay ha.2); have HX10 := Lib.hid (HX9.out.kept ha.2 (by simp)); have HB10 := Lib.hid hb; have HC10 := Lib.hid hc; clear hP ha hb hc))
        go_roundw
        case rel =>
          refine ⟨k + 1, by omega, by go_num, Lib.hid ?_⟩
          have := HA14.out
          rw [Hs.out, pairB]
          have hz : textB [] = [0] := by decide
          rw [hz] at this
          simpa [Hxs.out, List.append_assoc] using this
        case measure => simp [intOf]; omega
    · obtain rfl : k = n := by omega
      have HA9 := Lib.hid ho.out
      rw [Hn.out, List.take_length] at HA9
      go_wp2
      go_ret
      have := HA9.out
      exact ⟨_, rfl, this.1, this.2⟩
end Go.Proofs.YthkncfdgfbnchaaDoor
end

/-! courantref22.Bytes: pairs as bytes. -/
section
set_option linter.unusedVariables false
set_option linter.unusedSimpArgs false
namespace Go.Proofs.YthkncfdgfbnchaaDoor
open Go.RowKit

set_option maxRecDepth 100000 in
set_option maxHeartbeats 8000000 in
theorem refBytes_any (w : World) (A : Option Addr) (n c : Nat) (ps : List PV) (hn : n = ps.length) (hl : (bytesP ps).length ≤ 100000000) (h : PsAt w A ps) : Calls Tryd.prog 44 #[.slice A n c] w (ClonePost w (bytesP ps)) := by
  have H := Lib.hid h
  have Hn := Lib.hid hn
  have hn9 : n ≤ 100000000 := bytesP_le hn hl
  have hn8 : (n : Int) ≤ 100000000 := by omega
  have HZ := Lib.hid (refZig_any w n (by omega))
  have HL := Lib.hid hl
  clear h hn hl
  go_enter Tryd.func44, Tryd.ntmps44
  go_wp2_with (go_at_call 80; refine HZ.out.mono ?_; rintro e w1 hP; obtain ⟨Az, cz, rfl, ha, -, -⟩ := ClonePost.acc hP; have HA := Lib.hid ha; clear hP ha)
  go_loopw [3, 4] (fun l i wr => ∃ k : Nat, k ≤ n ∧ i = .int .i64 k ∧ Hid (Acc w wr l (zigB n ++ (ps.take k).flatMap pairB))) (fun _ i _ => n - (intOf i).toNat)
  case atStart => exact ⟨0, by omega, rfl, Lib.hid (by simpa using HA.out)⟩
  case round =>
    obtain ⟨k, hk, rfl, ho⟩ := hrel
    by_cases hlt : k < n
    · have hk9 : (k : Int) < (n : Int) := by omega
      obtain ⟨p, hp⟩ : ∃ p, ps[k]? = some p := ⟨_, List.getElem?_eq_getElem (by have := Hn.out; omega)⟩
      obtain ⟨ad, rfl, hc, hok⟩ := H.out k p hp
      have hc0 := ho.out.2.cell hc.c0 (by simp)
      have hc1 := ho.out.2.cell hc.c1 (by simp)
      have hc2 := ho.out.2.cell hc.c2 (by simp)
      have Hs := Lib.hid (flat_snoc ps k _ hp)
      have Hok := Lib.hid hok
      have HA0 : Hid (Acc w wr u3 (zigB n ++ (ps.take k).flatMap pairB)) := ho
      obtain ⟨c9, W9, hcv, hB9, hK9⟩ := str_bytes wr p.key
      have HB9 := Lib.hid hB9
      have HA9 := Lib.hid (HA0.out.stay hK9)
      obtain ⟨key, b, gone, pA, pc⟩ := p
      have HN := Lib.hid (num_le Hn.out hp HL.out)
      obtain ⟨xs0, hxs0⟩ : ∃ xs0, xs0 = zigB n ++ (ps.take k).flatMap pairB := ⟨_, rfl⟩
      rw [← hxs0] at HN HA0 HA9
      have Hxs := Lib.hid hxs0
      simp only [PV.val] at hc0 hc1 hc2
      have HC : Hid (∀ W, Kept (fun _ => False) w W → W.cell? ⟨(ad.add (k * 3)).block, (ad.add (k * 3)).off + 1, none⟩ = some (.slice pA b.length pc) ∧ W.cell? ⟨(ad.add (k * 3)).block, (ad.add (k * 3)).off + 2, none⟩ = some (.bool gone)) := Lib.hid fun W hW => ⟨hW.cell hc.c1 (by simp), hW.cell hc.c2 (by simp)⟩
      clear hc hp hok hB9 hK9 ho hxs0 hc1 hc2
      have HN1 := Lib.hid HN.out.1
      cases gone
      · have HN2 := Lib.hid (HN.out.2 rfl)
        clear HN
        go_wp2_with (first
          | (at_builtin; refine wpList_append_acc rfl _ _ rfl _ _ rfl HA13.out _ _ _ _ rfl HB13.out rfl HC13.out (by have := HN2.out; simp only [List.length_append, List.length_cons, List.length_nil]; omega) ?_; intro v4 w14 ha hg; have HA14 := Lib.hid ha; clear ha hg)
          | (go_at_call 81; refine (refText_any _ pA b.length pc b rfl (by have := HN2.out; have := textB_ge b; omega) (Hok.out.1.kept HA12.out.2 (by simp)) Hok.out.2).mono ?_; rintro e w13 hP; obtain ⟨A13, c13, rfl, ha, hb, hc⟩ := ClonePost.acc hP; have HA13 := Lib.hid (HA12.out.stay ha.2); have HB13 := Lib.hid hb; have HC13 := Lib.hid hc; clear hP ha hb hc)
          | (at_builtin; refine wpList_append_acc rfl _ _ rfl _ _ rfl (HA11.out.stay ((Kept.refl _ _).alloc _)) _ 1 1 [0] rfl (bs_new _ _ _ rfl _) rfl (fun e => by cases e) (by have := HN1.out; simp only [List.length_append, List.length_cons, List.length_nil]; omega) ?_; intro v2 w12 ha hg; have HA12 := Lib.hid ha; obtain ⟨e1', -⟩ := HC.out _ ha.2; clear ha hg)
          | (at_builtin; refine wpList_append_acc rfl _ _ rfl _ _ rfl HA10.out _ _ _ _ rfl HB10.out rfl HC10.out (by have := HN1.out; omega) ?_; intro v1 w11 ha hg; have HA11 := Lib.hid ha; obtain ⟨e1, e2⟩ := HC.out _ ha.2; clear ha hg)
          | (go_at_call 81; refine (refText_any W9 _ key.size c9 (kb key) (kb_size key).symm (by have := HN1.out; have := textB_ge (kb key); rw [kb_size] at this; omega) HB9.out (fun e => by cases e)).mono ?_; rintro e w10 hP; obtain ⟨A10, c10, rfl, ha, hb, hc⟩ := ClonePost.acc hP; have HA10 := Lib.hid (HA9.out.stay ha.2); have HB10 := Lib.hid hb; have HC10 := Lib.hid hc; clear hP ha hb hc))
        go_roundw
        case rel =>
          refine ⟨k + 1, by omega, by go_num, Lib.hid ?_⟩
          have := HA14.out
          rw [Hs.out, pairB]
          simpa [Hxs.out, List.append_assoc] using this
        case measure => simp [intOf]; omega
      · clear HN
        go_wp2_with (first
          | (at_builtin; refine wpList_append_acc rfl _ _ rfl _ _ rfl (HA11.out.stay ((Kept.refl _ _).alloc _)) _ 2 2 [1, 0] rfl (bs_new _ _ _ rfl _) rfl (fun e => by cases e) (by have := HN1.out; simp only [List.length_append, List.length_cons, List.length_nil]; omega) ?_; intro v2 w12 ha hg; have HA12 := Lib.hid ha; clear ha hg)
          | (at_builtin; refine wpList_append_acc rfl _ _ rfl _ _ rfl HA10.out _ _ _ _ rfl HB10.out rfl HC10.out (by have := HN1.out; omega) ?_; intro v1 w11 ha hg; have HA11 := Lib.hid ha; obtain ⟨e1, e2⟩ := HC.out _ ha.2; clear ha hg)
          | (go_at_call 81; refine (refText_any W9 _ key.size c9 (kb key) (kb_size key).symm (by have := HN1.out; have := textB_ge (kb key); rw [kb_size] at this; omega) HB9.out (fun e => by cases e)).mono ?_; rintro e w10 hP; obtain ⟨A10, c10, rfl, ha, hb, hc⟩ := ClonePost.acc hP; have HA10 := Lib.hid (HA9.out.stay ha.2); have HB10 := Lib.hid hb; have HC10 := Lib.hid hc; clear hP ha hb hc))
        go_roundw
        case rel =>
          refine ⟨k + 1, by omega, by go_num, Lib.hid ?_⟩
          have := HA12.out
          rw [Hs.out, pairB]
          simpa [Hxs.out, List.append_assoc] using this
        case measure => simp [intOf]; omega
    · obtain rfl : k = n := by omega
      have HA9 := Lib.hid ho.out
      rw [Hn.out, List.take_length] at HA9
      go_wp2
      go_ret
      have := HA9.out
      exact ⟨_, rfl, this.1, this.2⟩
end Go.Proofs.YthkncfdgfbnchaaDoor
end
