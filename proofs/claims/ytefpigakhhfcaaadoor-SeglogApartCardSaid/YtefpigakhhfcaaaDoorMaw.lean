import Derived.Test.YtefpigakhhfcaaaDoorMav
import Derived.Test.YtefpigakhhfcaaaDoorMas
/-! frame.Make. -/
section
set_option linter.unusedVariables false
set_option linter.unusedSimpArgs false
namespace Go.Proofs.YtefpigakhhfcaaaDoor
open Go.RowKit

def restB (off : Nat) (d : List UInt8) : List UInt8 := numN 8 off ++ d
def frameB (off : Nat) (d : List UInt8) : List UInt8 := numN 4 d.length ++ (numN 4 (crcN (restB off d)) ++ restB off d)
theorem restB_len (off : Nat) (d : List UInt8) : (restB off d).length = d.length + 8 := by simp [restB, numN_len]; omega
theorem frameB_len (off : Nat) (d : List UInt8) : (frameB off d).length = d.length + 16 := by simp [frameB, numN_len, restB_len]; omega
theorem bbs_new (W : World) (ps : List BV) (h : ∀ p ∈ ps, Bs W p.A p.b ∧ (p.A = none → p.c = 0)) : BBs (W.alloc (.cells (ps.map fun p => Value.slice p.A p.b.length p.c).toArray 31)) (some ⟨W.heap.size, 0, none⟩) ps := by
  intro j p hp
  have h1 := heap_alloc_new W (.cells (ps.map fun p => Value.slice p.A p.b.length p.c).toArray 31)
  have hk : Kept (fun _ => False) W (W.alloc (.cells (ps.map fun p => Value.slice p.A p.b.length p.c).toArray 31)) := (Kept.refl _ W).alloc _
  have h8 : (⟨W.heap.size, 0, none⟩ : Addr).add j = ⟨W.heap.size, j, none⟩ := by unfold Addr.add; split <;> simp_all
  have hq := h p (List.mem_of_getElem? hp)
  refine ⟨_, rfl, ?_, hq.1.kept hk (by simp), hq.2⟩
  rw [h8]
  unfold World.cell?
  dsimp only
  rw [h1]
  simp [hp]
set_option maxRecDepth 100000 in
set_option maxHeartbeats 4000000 in
theorem make_any (w : World) (off : Nat) (A : Option Addr) (n c : Nat) (xs : List UInt8) (ho : off < 18446744073709551616) (hn : n = xs.length) (hl : n ≤ 32768) (h : Bs w A xs) (hA : A = none → c = 0) :
    Calls Tryd.prog 31 #[.int .u64 (off : Nat), .slice A n c] w fun e w' => ∃ v, e = .returned (.tuple #[v, .int .i64 0]) ∧ w'.ownsRow w.heap.size 5 1 v (frameB off xs).length ((frameB off xs).map bv) ∧ Kept (fun _ => False) w w' := by
  subst hn
  have H := Lib.hid h
  have HA := Lib.hid hA
  obtain ⟨n, hn⟩ : ∃ n, n = xs.length := ⟨_, rfl⟩
  rw [← hn] at hl ⊢
  have Hn := Lib.hid hn
  have hn9 : ¬ (32768 : Int) < (n : Int) := by omega
  have hn8 : (n : Int) ≤ 32768 := by omega
  have HN8 := Lib.hid (number_any w off 8 ho (by omega))
  have HN4 : Hid (∀ W, Calls Tryd.prog 52 #[.int .u64 (n : Nat), .int .i64 4] W (ClonePost W (numN 4 n))) := Lib.hid fun W => number_any W n 4 (by omega) (by omega)
  obtain ⟨cr, hcr⟩ : ∃ cr, cr = crcN (restB off xs) := ⟨_, rfl⟩
  have hcr9 : cr < 4294967296 := by rw [hcr]; exact crcN_lt _
  have HC4 : Hid (∀ W, Calls Tryd.prog 52 #[.int .u64 (cr : Nat), .int .i64 4] W (ClonePost W (numN 4 cr))) := Lib.hid fun W => number_any W cr 4 (by omega) (by omega)
  have Hcr := Lib.hid hcr
  obtain ⟨m, hm⟩ : ∃ m, m = (restB off xs).length := ⟨_, rfl⟩
  have Hm := Lib.hid hm
  have hm9 : m ≤ 40000 := by rw [hm, restB_len]; omega
  clear h hn hA hcr hm
  go_enter Tryd.func31, Tryd.ntmps31
  have HBB : Hid (∀ (W1 : World) (A1 : Option Addr) (c1 : Nat), Kept (fun _ => False) w W1 → Bs W1 A1 (numN 8 off) → (A1 = none → c1 = 0) → BBs (W1.alloc (.cells #[.slice A1 (numN 8 off).length c1, .slice A n c] 31)) (some ⟨W1.heap.size, 0, none⟩) [⟨A1, c1, numN 8 off⟩, ⟨A, c, xs⟩]) := Lib.hid (by
    intro W1 A1 c1 hk hb hc
    rw [Hn.out]
    exact bbs_new W1 [⟨A1, c1, numN 8 off⟩, ⟨A, c, xs⟩] (fun p hp => by
      simp only [List.mem_cons, List.not_mem_nil, or_false] at hp
      rcases hp with rfl | rfl
      · exact ⟨hb, hc⟩
      · exact ⟨H.out.kept hk (by simp), HA.out⟩))
  have HCon : Hid (∀ (W1 : World) (A1 : Option Addr) (c1 : Nat), Kept (fun _ => False) w W1 → Bs W1 A1 (numN 8 off) → (A1 = none → c1 = 0) → Calls Tryd.prog 51 #[.slice (some ⟨W1.heap.size, 0, none⟩) 2 2] (W1.alloc (.cells #[.slice A1 (numN 8 off).length c1, .slice A n c] 31)) (ClonePost (W1.alloc (.cells #[.slice A1 (numN 8 off).length c1, .slice A n c] 31)) (restB off xs))) := Lib.hid (by
    intro W1 A1 c1 hk hb hc
    have := concat_any _ _ 2 2 _ rfl (by omega) (by simp [sumB, numN_len]; have := Hn.out; omega) (HBB.out W1 A1 c1 hk hb hc)
    simpa [restB] using this)
  go_upto_region 4 with (first
    | (go_at_call 52; refine HN8.out.mono ?_; rintro e w1 hP; obtain ⟨A1, c1, rfl, ha, hb, hc⟩ := ClonePost.acc hP; have HK1 := Lib.hid ha.2; have HB1 := Lib.hid hb; have HC1 := Lib.hid hc; clear hP ha hb hc)
    | (go_at_call 51; refine (HCon.out w1 A1 c1 HK1.out HB1.out HC1.out).mono ?_; rintro e w2 hP; obtain ⟨A2, c2, rfl, ha, hb, hc⟩ := ClonePost.acc hP; rw [← Hm.out]; have HK2 := Lib.hid ((HK1.out.alloc _).trans' ha.2); have HB2 := Lib.hid hb; have HC2 := Lib.hid hc; clear hP ha hb hc))
  have HS : Hid (∀ W, Kept (fun _ => False) w2 W → Calls Tryd.prog 53 #[.slice A2 m c2] W fun e w' => e = .returned (.int .u32 (cr : Nat)) ∧ Kept (fun _ => False) W w') := Lib.hid fun W hk => by
    rw [Hcr.out]
    exact crcSum_any W A2 m c2 (restB off xs) Hm.out (by omega) (HB2.out.kept hk (by simp))
  have HCon2 : Hid (∀ (W1 : World) (A3 : Option Addr) (c3 : Nat) (A4 : Option Addr) (c4 : Nat), Kept (fun _ => False) w2 W1 → Bs W1 A3 (numN 4 n) → (A3 = none → c3 = 0) → Bs W1 A4 (numN 4 cr) → (A4 = none → c4 = 0) → Calls Tryd.prog 51 #[.slice (some ⟨W1.heap.size, 0, none⟩) 3 3] (W1.alloc (.cells #[.slice A3 (numN 4 n).length c3, .slice A4 (numN 4 cr).length c4, .slice A2 m c2] 31)) (ClonePost (W1.alloc (.cells #[.slice A3 (numN 4 n).length c3, .slice A4 (numN 4 cr).length c4, .slice A2 m c2] 31)) (frameB off xs))) := Lib.hid (by
    intro W1 A3 c3 A4 c4 hk hb3 hc3 hb4 hc4
    rw [Hm.out]
    have hbb := bbs_new W1 [⟨A3, c3, numN 4 n⟩, ⟨A4, c4, numN 4 cr⟩, ⟨A2, c2, restB off xs⟩] (fun p hp => by
      simp only [List.mem_cons, List.not_mem_nil, or_false] at hp
      rcases hp with rfl | rfl | rfl
      · exact ⟨hb3, hc3⟩
      · exact ⟨hb4, hc4⟩
      · exact ⟨HB2.out.kept hk (by simp), HC2.out⟩)
    have := concat_any _ _ 3 3 _ rfl (by omega) (by simp [sumB, numN_len, restB_len]; have := Hn.out; omega) hbb
    have e : [(⟨A3, c3, numN 4 n⟩ : BV), ⟨A4, c4, numN 4 cr⟩, ⟨A2, c2, restB off xs⟩].flatMap BV.b = frameB off xs := by
      simp [frameB, ← Hn.out, Hcr.out]
    rw [e] at this
    exact this)
  clear HCon HBB HN8
  go_wp2_with (first
    | (go_at_call 51; refine (HCon2.out w5 A3 c3 A4 c4 HK5.out HB3.out HC3.out HB4.out HC4'.out).mono ?_; rintro e w6 hP; obtain ⟨v6, rfl, ho6, hk6⟩ := hP; have HO6 := Lib.hid ho6; have HK6 := Lib.hid ((HK5.out.alloc _).trans' hk6); clear ho6 hk6)
    | (go_at_call 52; have hkk := HK4.out; (with_reducible refine (HC4.out _).mono ?_); rintro e w5 hP; obtain ⟨A4, c4, rfl, ha, hb, hc⟩ := ClonePost.acc hP; have HK5 := Lib.hid (HK4.out.trans' ha.2); have HB4 := Lib.hid hb; have HC4' := Lib.hid hc; have HB3 := Lib.hid (HB3'.out.kept (HK34.out.trans' ha.2) (by simp)); clear hP ha hb hc hkk)
    | (go_at_call 53; refine (HS.out w3 HK3.out).mono ?_; rintro e w4 ⟨rfl, hk4⟩; have HK34 := Lib.hid hk4; have HK4 := Lib.hid (HK3.out.trans' hk4); clear hk4)
    | (go_at_call 52; (with_reducible refine (HN4.out _).mono ?_); rintro e w3 hP; obtain ⟨A3, c3, rfl, ha, hb, hc⟩ := ClonePost.acc hP; have HK3 := Lib.hid ha.2; have HB3' := Lib.hid hb; have HC3 := Lib.hid hc; clear hP ha hb hc))
  go_ret2
  exact ⟨v6, rfl, own_low HO6.out (Nat.le_trans HK2.out.size (HK5.out.alloc _).size), HK2.out.trans' HK6.out⟩
end Go.Proofs.YtefpigakhhfcaaaDoor
end

/-! frame.take, frame.Take. -/
section
set_option linter.unusedVariables false
set_option linter.unusedSimpArgs false
namespace Go.Proofs.YtefpigakhhfcaaaDoor
open Go.RowKit

/-- The number that bytes are, the highest first. -/
def takeV (b : List UInt8) : Nat := b.foldl (fun v c => v * 256 + c.toNat) 0
theorem takeV_snoc (l : List UInt8) (x : UInt8) : takeV (l ++ [x]) = takeV l * 256 + x.toNat := by simp [takeV]
theorem takeV_take (xs : List UInt8) (k : Nat) (x : UInt8) (h : xs[k]? = some x) : takeV (xs.take (k + 1)) = takeV (xs.take k) * 256 + x.toNat := by
  rw [List.take_add_one, h, Option.toList_some, takeV_snoc]
theorem takeV_lt (xs : List UInt8) (k : Nat) : takeV (xs.take k) < 256 ^ k := by
  induction k with
  | zero => simp [takeV]
  | succ k ih =>
    rcases Nat.lt_or_ge k xs.length with h | h
    · rw [takeV_take xs k _ (List.getElem?_eq_getElem h), Nat.pow_succ]
      have := (xs[k]).toNat_lt
      omega
    · rw [List.take_of_length_le (by omega)]
      rw [List.take_of_length_le h] at ih
      rw [Nat.pow_succ]; omega
theorem takeV_pre (k v j : Nat) (hj : j ≤ k) : takeV ((List.range j).map (numAt k v)) = v / 2 ^ (8 * (k - j)) % 2 ^ (8 * j) := by
  induction j with
  | zero => simp [takeV, Nat.mod_one]
  | succ j ih =>
    rw [List.range_succ, List.map_append, List.map_cons, List.map_nil, takeV_snoc, ih (by omega)]
    unfold numAt
    obtain ⟨m, hm⟩ : ∃ m, m = 8 * (k - 1 - j) := ⟨_, rfl⟩
    rw [← hm, show 8 * (k - j) = m + 8 by omega, show 8 * (k - (j + 1)) = m by omega, Nat.pow_add, ← Nat.div_div_eq_div_mul, show 8 * (j + 1) = 8 + 8 * j by omega, Nat.pow_add, Nat.mod_mul, UInt8.toNat_ofNat', show (2 : Nat) ^ 8 = 256 from rfl]
    omega
theorem takeV_num (k v : Nat) (h : v < 2 ^ (8 * k)) : takeV (numN k v) = v := by
  unfold numN
  rw [takeV_pre k v k (Nat.le_refl _), Nat.sub_self, Nat.mul_zero, Nat.pow_zero, Nat.div_one, Nat.mod_eq_of_lt h]
theorem orAdd' (x y z : Nat) (hz : z = y * 256) (hx : x < 256) (h : z + x < 18446744073709551616) : bits .or .u64 (z : Int) (x : Int) = ((z + x : Nat) : Int) := by
  have h1 : (BitVec.ofInt 64 (x : Int)).toNat = x := by
    rw [BitVec.ofInt_natCast, BitVec.toNat_ofNat]; exact Nat.mod_eq_of_lt (by omega)
  have h2 : (BitVec.ofInt 64 (z : Int)).toNat = z := by
    rw [BitVec.ofInt_natCast, BitVec.toNat_ofNat]; exact Nat.mod_eq_of_lt (by omega)
  have h3 : z ||| x = z + x := by
    subst hz
    have := Nat.two_pow_add_eq_or_of_lt (i := 8) (b := x) hx y
    rw [Nat.mul_comm y, show (256 : Nat) = 2 ^ 8 from rfl, ← this]
  show IntKind.u64.wrap ((BitVec.ofInt 64 (z : Int) ||| BitVec.ofInt 64 (x : Int)).toNat : Int) = _
  rw [BitVec.toNat_or, h1, h2, h3, IntKind.wrap_u64]
  omega
set_option maxRecDepth 100000 in
set_option maxHeartbeats 4000000 in
theorem takeN_any (w : World) (A : Option Addr) (n c : Nat) (xs : List UInt8) (hn : n = xs.length) (h8 : n ≤ 8) (h : Bs w A xs) : Calls Tryd.prog 73 #[.slice A n c] w fun e w' => e = .returned (.int .u64 (takeV xs : Nat)) ∧ w' = w := by
  have H := Lib.hid h
  have Hn := Lib.hid hn
  have hn8 : (n : Int) ≤ 8 := by omega
  clear h hn
  go_enter Tryd.func73, Tryd.ntmps73
  go_wp2_with fail
  go_loopw [3, 8] (fun v i wr => ∃ j : Nat, j ≤ n ∧ i = .int .i64 (j : Nat) ∧ v = .int .u64 (takeV (xs.take j) : Nat) ∧ wr = w) (fun _ i _ => n - (intOf i).toNat)
  case atStart => exact ⟨0, by omega, rfl, rfl, rfl⟩
  case round =>
    obtain ⟨j, hj, rfl, rfl, rfl⟩ := hrel
    obtain ⟨v, hv⟩ : ∃ v, v = takeV (xs.take j) := ⟨_, rfl⟩
    rw [← hv]
    have Hv := Lib.hid hv
    by_cases hlt : j < n
    · have hj9 : (j : Int) < (n : Int) := by omega
      obtain ⟨x, hx⟩ : ∃ x, xs[j]? = some x := ⟨_, List.getElem?_eq_getElem (by have := Hn.out; omega)⟩
      obtain ⟨ad, rfl⟩ : ∃ ad, A = some ad := by
        cases A with
        | some ad => exact ⟨ad, rfl⟩
        | none => rw [H.out.1 rfl] at hx; simp at hx
      have dx := bs_at H.out hx
      have Ht := Lib.hid (takeV_take xs j x hx)
      have hv7 : v < 72057594037927936 := by
        have h1 := takeV_lt xs j
        have h2 : 256 ^ j ≤ 256 ^ 7 := Nat.pow_le_pow_right (by omega) (by omega)
        rw [← hv] at h1
        have h3 : (256 : Nat) ^ 7 = 72057594037927936 := by decide
        omega
      have hx256 := x.toNat_lt
      obtain ⟨y, hy⟩ : ∃ y, y = x.toNat := ⟨_, rfl⟩
      rw [← hy] at dx Ht hx256
      obtain ⟨z, hz⟩ : ∃ z, z = v * 256 := ⟨_, rfl⟩
      have hsh : Op.shift .shl .u64 (v : Int) .u64 (8 : Int) = pure (.int .u64 (z : Nat)) := by
        rw [shift_shl_any _ _ _ _ (by omega)]
        have h9 : ((v : Int)) * 2 ^ min ((8 : Int)).toNat 64 = (z : Int) := by rw [show min ((8 : Int)).toNat 64 = 8 from rfl, hz]; omega
        rw [show IntKind.u64.bits = 64 from rfl, h9, IntKind.wrap_u64]
        congr 2
        omega
      obtain ⟨t, htt⟩ : ∃ t, t = z + y := ⟨_, rfl⟩
      have hor : bits .or .u64 (z : Int) (y : Int) = (t : Int) := by
        rw [orAdd' y v z hz (by omega) (by omega), htt]
      have HT : Hid (t = takeV (xs.take (j + 1))) := Lib.hid (by rw [Ht.out, htt, hz, Hv.out])
      have hy9 : (y : Int) < 256 := by omega
      clear hv hx hy hz htt hv7
      go_wp2
      go_roundw
      case rel => exact ⟨j + 1, by omega, by go_num, by rw [← HT.out], trivial⟩
      case measure => simp [intOf]; omega
    · obtain rfl : j = n := by omega
      have hV : v = takeV xs := by rw [Hv.out, List.take_of_length_le (by have := Hn.out; omega)]
      clear hv
      go_wp2
      go_ret
      subst hV
      exact ⟨rfl, rfl⟩
end Go.Proofs.YtefpigakhhfcaaaDoor
end
