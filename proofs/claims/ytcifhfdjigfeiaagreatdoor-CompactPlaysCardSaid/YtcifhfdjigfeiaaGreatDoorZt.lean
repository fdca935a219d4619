import Derived.Test.YtcifhfdjigfeiaaGreatDoorZs
import Derived.Test.YtcifhfdjigfeiaaGreatDoorZo
/-! compact.Store.read. -/
section
set_option linter.unusedVariables false
set_option linter.unusedSimpArgs false
namespace Go.Proofs.YtcifhfdjigfeiaaGreatDoor
open Go.RowKit

/-- What frames' pairs come to. -/
def foldP (parts : List (List PV)) : List Core := parts.foldl (fun L l => putC L (l.map PV.core)) []
theorem foldP_snoc (parts : List (List PV)) (l : List PV) : foldP (parts ++ [l]) = putC (foldP parts) (l.map PV.core) := by simp [foldP]
theorem put1_norm (L : List Core) (p : PV) : put1 L (normP p) = put1 L p.core := by
  unfold put1 normP PV.core nb
  cases h : p.gone <;> simp
theorem putC_norm (L : List Core) (ps : List PV) : putC L (ps.map normP) = putC L (ps.map PV.core) := by
  induction ps generalizing L with
  | nil => rfl
  | cons p ps ih =>
    have e1 : ∀ M c, putC L (c :: M) = putC (put1 L c) M := fun M c => rfl
    rw [List.map_cons, List.map_cons, e1, e1, put1_norm, ih]
theorem put1_all {Q : Core → Prop} {L : List Core} {c : Core} (hL : ∀ x ∈ L, Q x) (hc : Q (c.1, c.2.1, false)) : ∀ x ∈ put1 L c, Q x := by
  intro x hx
  unfold put1 at hx
  rcases List.mem_append.1 hx with hx | hx
  · rcases List.mem_append.1 hx with hx | hx
    · exact hL x (List.mem_of_mem_take hx)
    · split at hx
      · cases hx
      · rw [List.mem_singleton.1 hx]; exact hc
  · exact hL x (List.mem_of_mem_drop hx)
theorem putC_all {Q : Core → Prop} {L M : List Core} (hL : ∀ x ∈ L, Q x) (hM : ∀ x ∈ M, Q (x.1, x.2.1, false)) : ∀ x ∈ putC L M, Q x := by
  unfold putC
  induction M generalizing L with
  | nil => exact hL
  | cons m M ih =>
    rw [List.foldl_cons]
    exact ih (put1_all hL (hM m List.mem_cons_self)) fun x hx => hM x (List.mem_cons_of_mem _ hx)
theorem foldP_all {Q : Core → Prop} {parts : List (List PV)} (h : ∀ l ∈ parts, ∀ p ∈ l, Q (p.key, p.b, false)) : ∀ x ∈ foldP parts, Q x := by
  have : ∀ (parts : List (List PV)) (L : List Core), (∀ x ∈ L, Q x) → (∀ l ∈ parts, ∀ p ∈ l, Q (p.key, p.b, false)) → ∀ x ∈ parts.foldl (fun L l => putC L (l.map PV.core)) L, Q x := by
    intro parts
    induction parts with
    | nil => exact fun L hL _ => hL
    | cons l parts ih =>
      intro L hL hp
      rw [List.foldl_cons]
      refine ih _ (putC_all hL fun x hx => ?_) fun m hm => hp m (List.mem_cons_of_mem _ hm)
      obtain ⟨p, hp1, rfl⟩ := List.mem_map.1 hx
      exact hp l List.mem_cons_self p hp1
  exact this parts [] (by simp) h
theorem foldP_len (parts : List (List PV)) : (foldP parts).length ≤ parts.flatten.length := by
  have : ∀ (parts : List (List PV)) (L : List Core), (parts.foldl (fun L l => putC L (l.map PV.core)) L).length ≤ L.length + parts.flatten.length := by
    intro parts
    induction parts with
    | nil => simp
    | cons l parts ih =>
      intro L
      have h1 := ih (putC L (l.map PV.core))
      have h2 := putC_len L (l.map PV.core)
      rw [List.foldl_cons, List.flatten_cons, List.length_append]
      simp only [List.length_map] at h2
      omega
  simpa [foldP] using this parts []
theorem fromB_form (A : Option Addr) (l lo c : Nat) (xs : List UInt8) (hl : l = xs.length) (h1 : lo ≤ l) (hc : l ≤ c) (hA : A = none → c = 0) :
    ∃ A2, (∀ W, (Instr.slice 51 (.slice A l c) (some (.int .i64 lo)) none none).run Tryz.prog W = .ok (.slice A2 (l - lo) (c - lo)) W) ∧ (∀ W, Bs W A xs → Bs W A2 (xs.drop lo)) ∧ (A2 = none → c - lo = 0) := by
  refine ⟨if c = lo then A else A.map (·.add (lo * 1)), fun W => slice_fromB W A l lo c h1 hc, fun W h => ?_, fun e => ?_⟩
  · by_cases h0 : c = lo
    · rw [if_pos h0, List.drop_of_length_le (by omega)]; exact Bs.nil _ _
    · rw [if_neg h0]; exact bs_drop h lo
  · by_cases h0 : c = lo
    · omega
    · rw [if_neg h0] at e
      cases A with
      | none => have := hA rfl; omega
      | some a => cases e
/-- What read holds. -/
structure RSt (w W : World) (T F : Nat) (nm : ByteArray) (v : Value) (qs : List PV) (next size : Nat) (dead : Bool) : Prop where
  sb : SB W T F nm v next size dead
  row : W.ownsRow w.heap.size 53 3 v qs.length (cellsP qs)
  own : ∀ q ∈ qs, W.ownsRow w.heap.size 5 1 q.val q.b.length (q.b.map bv)
  kept : Kept (fun k => k = T) w W
section
variable {w W W' : World} {T F : Nat} {nm : ByteArray} {v v' : Value} {qs qs' : List PV} {next size next' size' : Nat} {dead : Bool}
theorem RSt.tlt (h : RSt w W T F nm v qs next size dead) : T < W.heap.size := (Array.getElem?_eq_some_iff.1 (show W.heap[T]? = _ from h.sb)).1
theorem RSt.stay (h : RSt w W T F nm v qs next size dead) (hk : Kept (fun _ => False) W W') : RSt w W' T F nm v qs next size dead :=
  ⟨h.sb.kept' hk, own_kept h.row hk (by simp), fun q hq => own_kept (h.own q hq) hk (by simp), h.kept.trans' (hk.mono fun _ _ h => h.elim)⟩
theorem RSt.turn (h : RSt w W T F nm v qs next size dead) (hs : SB W' T F nm v next' size' dead) (hk : Kept (fun k => k = T) W W') : RSt w W' T F nm v qs next' size' dead :=
  ⟨hs, own_kept h.row hk fun k e e2 => h.sb.noRow h.row (by decide) (e2 ▸ e), fun q hq => own_kept (h.own q hq) hk fun k e e2 => h.sb.noRow (h.own q hq) (by decide) (e2 ▸ e), h.kept.trans' hk⟩
theorem RSt.other {D : Nat} (h : RSt w W T F nm v qs next size dead) (hk : Kept (fun k => k = D) W W') (hD : W.heap.size ≤ D) : RSt w W' T F nm v qs next size dead :=
  h.stay (hk.mono fun i hi e => by omega)
theorem RSt.at_ (h : RSt w W T F nm v qs next size dead) : ∃ A c, v = .slice A qs.length c ∧ PsAt W A qs := by
  obtain ⟨A, c, h1, -, -, -, h4, -⟩ := row_form h.row fun q hq => PV.ok_own (h.own q hq)
  exact ⟨A, c, h1, h4⟩
theorem RSt.put {W1 : World} (h : RSt w W T F nm v qs next size dead) (ho : OwnP W W1 v' qs') : RSt w (W1.setCell ⟨T, 2, none⟩ v') T F nm v' qs' next size dead := by
  have h1 : RSt w W1 T F nm v qs next size dead := h.stay ho.kept
  have hk : Kept (fun k => k = T) W1 (W1.setCell ⟨T, 2, none⟩ v') := kF W1 T 2 v'
  have hs := h.kept.size
  have ht := h.tlt
  exact ⟨h1.sb.s2 v', own_kept (own_low ho.row hs) hk fun k e e2 => by have := own_ge ho.row k e; omega, fun q hq => own_kept (own_low (ho.own q hq) hs) hk fun k e e2 => by have := own_ge (ho.own q hq) k e; omega, h1.kept.trans' hk⟩
end
theorem frsL_append (n : Nat) (a b : List (List UInt8)) : frsL n (a ++ b) = frsL n a ++ frsL (n + a.length) b := by
  induction a generalizing n with
  | nil => simp [frsL]
  | cons x a ih =>
    simp only [List.cons_append, frsL, ih (n + 1), List.length_cons, List.append_assoc]
    rw [show n + 1 + a.length = n + (a.length + 1) by omega]
theorem frs_at {parts : List (List PV)} {tail : List UInt8} {j : Nat} {l : List PV} (h : parts[j]? = some l) :
    (frsL 0 (parts.map bytesP) ++ tail).drop (frsL 0 ((parts.take j).map bytesP)).length = frameB j (bytesP l) ++ (frsL (j + 1) ((parts.drop (j + 1)).map bytesP) ++ tail) ∧ (frsL 0 ((parts.take (j + 1)).map bytesP)).length = (frsL 0 ((parts.take j).map bytesP)).length + (16 + (bytesP l).length) := by
  have hj := (List.getElem?_eq_some_iff.1 h).1
  have e1 : parts.map bytesP = (parts.take j).map bytesP ++ (bytesP l :: (parts.drop (j + 1)).map bytesP) := by
    conv => lhs; rw [← List.take_append_drop j parts, List.map_append]
    rw [List.drop_eq_getElem_cons hj, List.map_cons, (List.getElem?_eq_some_iff.1 h).2]
  have e2 : ((parts.take j).map bytesP).length = j := by rw [List.length_map, List.length_take]; omega
  constructor
  · rw [e1, frsL_append, e2, Nat.zero_add, List.append_assoc, List.drop_left]
    simp [frsL]
  · rw [List.take_add_one, h, Option.toList_some, List.map_append, List.map_cons, List.map_nil, frsL_snoc, e2, List.length_append, frameB_len]
    omega
theorem frs_end (parts : List (List PV)) (tail : List UInt8) : (frsL 0 (parts.map bytesP) ++ tail).drop (frsL 0 ((parts.take parts.length).map bytesP)).length = tail := by
  rw [List.take_length, List.drop_left]
theorem frs_le (parts : List (List PV)) (j : Nat) : (frsL 0 ((parts.take j).map bytesP)).length ≤ (frsL 0 (parts.map bytesP)).length := by
  conv => rhs; rw [← List.take_append_drop j parts, List.map_append, frsL_append, List.length_append]
  omega
def cellNat : Option Value → Nat
  | some (.int _ z) => z.toNat
  | _ => 0
set_option maxRecDepth 100000 in
set_option maxHeartbeats 8000000 in
theorem cread_any (w : World) (T F : Nat) (nm : ByteArray) (dead : Bool) (A : Option Addr) (n c m : Nat) (b x : List UInt8) (parts : List (List PV)) (hsb : SB w T F nm (.slice none 0 0) 0 0 dead) (hn : n = b.length) (hc : n ≤ c) (hA : A = none → c = 0) (hb : Bs w A b) (hbT : ∀ ad, A = some ad → b = [] ∨ ad.block ≠ T) (hn9 : n ≤ 5000000)
    (hp : b = frsL 0 (parts.map bytesP) ++ (frameB parts.length x).take m) (hm : m < (frameB parts.length x).length) (hx : x.length ≤ 32768) (hpa : ∀ l ∈ parts, l.length ≤ 10000 ∧ (bytesP l).length ≤ 32768 ∧ ∀ p ∈ l, p.key.size ≤ 32768 ∧ p.b.length ≤ 32768) (hpl : parts.length ≤ 1000000) (hfl : parts.flatten.length ≤ 300000) :
    Calls Tryz.prog 28 #[.pointer (some ⟨T, 0, none⟩), .slice A n c] w fun e w' => e = .returned (.tuple #[]) ∧ ∃ v qs, RSt w w' T F nm v qs parts.length (frsL 0 (parts.map bytesP)).length dead ∧ qs.map PV.core = foldP parts := by
  have HB := Lib.hid hb
  have HP := Lib.hid hp
  have Hn := Lib.hid hn
  have HA := Lib.hid hA
  have HbT := Lib.hid hbT
  have Hpa := Lib.hid hpa
  have Hfl := Lib.hid hfl
  have Hm := Lib.hid hm
  have Hx := Lib.hid hx
  have H0 : Hid (RSt w w T F nm (.slice none 0 0) [] 0 0 dead) := Lib.hid ⟨hsb, World.ownsRow_nil _ _ _ _, fun q hq => by simp at hq, Kept.refl _ _⟩
  obtain ⟨pn, hpn⟩ : ∃ pn, pn = parts.length := ⟨_, rfl⟩
  have Hpn := Lib.hid hpn
  have hpl9 : pn ≤ 1000000 := by omega
  clear hsb hn hA hb hbT hp hm hx hpa hfl hpl hpn
  go_enter Tryz.func28, Tryz.ntmps28
  go_wp2_with fail
  go_step3
  go_wp2_with fail
  go_step3
  go_wp2_with fail
  go_loopw [5] (fun _ wr => ∃ (j : Nat) (v : Value) (qs : List PV), j ≤ pn ∧ Hid (RSt w wr T F nm v qs j (frsL 0 ((parts.take j).map bytesP)).length dead) ∧ Hid (qs.map PV.core = foldP (parts.take j))) (fun _ wr => pn + 1 - cellNat (wr.cell? ⟨T, 3, none⟩))
  case atStart => exact ⟨0, .slice none 0 0, [], by omega, H0, Lib.hid rfl⟩
  case round =>
    obtain ⟨j, v, qs, hj, hS, hC⟩ := hrel
    obtain ⟨sz, hsz⟩ : ∃ sz, sz = (frsL 0 ((parts.take j).map bytesP)).length := ⟨_, rfl⟩
    rw [← hsz] at hS
    have hszn : sz ≤ n := by rw [hsz, Hn.out, HP.out, List.length_append]; have := frs_le parts j; omega
    have hBs : Bs wr A b := HB.out.kept' hS.out.kept fun ad e => (HbT.out ad e).imp id fun h e2 => h e2
    obtain ⟨A2, hs2, hb2, hA2⟩ := fromB_form A n sz c b Hn.out hszn hc HA.out
    obtain ⟨n2, hn2⟩ : ∃ n2, n2 = n - sz := ⟨_, rfl⟩
    obtain ⟨c2, hc2⟩ : ∃ c2, c2 = c - sz := ⟨_, rfl⟩
    rw [← hn2, ← hc2] at hs2
    rw [← hc2] at hA2
    have t4 := hS.out.sb.c4
    by_cases hlt : j < pn
    · obtain ⟨l, hl⟩ : ∃ l, parts[j]? = some l := ⟨_, List.getElem?_eq_getElem (by have := Hpn.out; omega)⟩
      obtain ⟨hd1, hd2⟩ := frs_at (tail := (frameB parts.length x).take m) hl
      have hpa := Hpa.out l (List.mem_of_getElem? hl)
      have HTk : Hid (Calls Tryz.prog 51 #[.slice A2 n2 c2] wr (TakeOk wr j (bytesP l))) := Lib.hid (by
        exact fTake_ok wr A2 n2 c2 j (bytesP l) (frsL (j + 1) ((parts.drop (j + 1)).map bytesP) ++ (frameB parts.length x).take m) (b.drop sz) (by rw [List.length_drop, hn2, Hn.out]) (by omega) (by omega) hA2 (hb2 wr hBs) hpa.2.1 (by omega) (by rw [HP.out, hsz]; exact hd1))
      obtain ⟨k, hk⟩ : ∃ k, k = 16 + (bytesP l).length := ⟨_, rfl⟩
      have hk9 : k ≤ 32784 := by omega
      have Hk := Lib.hid hk
      have Hl := Lib.hid hl
      have Hsz := Lib.hid (And.intro hsz hd2)
      clear hBs hb2 hA2 hn2 hc2 hpa hl hsz hd1 hd2 hk
      go_upto_region 1 with (go_at_call 51; refine HTk.out.mono ?_; rintro e w1 ⟨V1, rfl, ho1, hk1⟩; rw [← Hk.out]; obtain ⟨A1, c1, rfl⟩ := own_slice ho1; have HO1 := Lib.hid ho1; have HS1 := Lib.hid (hS.out.stay hk1); clear ho1 hk1)
      obtain ⟨bl, hbl⟩ : ∃ bl, bl = (bytesP l).length := ⟨_, rfl⟩
      have HKT : Hid (∀ W, Kept (fun _ => False) w1 W → Calls Tryz.prog 52 #[.slice A1 bl c1] W fun e w' => ∃ v qs, e = .returned (.tuple #[v, .int .i64 0]) ∧ OwnP W w' v qs ∧ qs.map PV.core = l.map normP) := Lib.hid fun W hW => by
        have hpa := Hpa.out l (List.mem_of_getElem? Hl.out)
        obtain ⟨A9, c9, h8, -, h9, h7, -⟩ := Bs.of_own HO1.out
        simp only [Value.slice.injEq] at h8
        obtain ⟨rfl, -, rfl⟩ := h8
        rw [hbl]
        exact kTake_any W A1 _ c1 l rfl (by omega) (h9.kept hW (by simp)) h7 hpa.1 hpa.2.2
      rw [← hbl]
      obtain ⟨D, hD⟩ : ∃ D, D = w1.heap.size := ⟨_, rfl⟩
      obtain ⟨W2, hW2⟩ : ∃ W2, W2 = w1.alloc (.cells #[.int .u64 (j : Nat), .slice A1 bl c1] 88) := ⟨_, rfl⟩
      have HB2 : Hid (BoxR W2 D j (.slice A1 bl c1)) := Lib.hid (by rw [hW2, hD]; exact heap_alloc_new w1 _)
      have HK2 : Hid (Kept (fun _ => False) w1 W2) := Lib.hid (by rw [hW2]; exact (Kept.refl _ w1).alloc _)
      have HS2 := Lib.hid (HS1.out.stay HK2.out)
      rw [← hD, ← hW2]
      clear hD hW2 hbl t4
      have y0 := HB2.out.c0
      have t3 := HS2.out.sb.c3
      go_quiet (fail)
      obtain ⟨W3, hW3⟩ : ∃ W3, W3 = W2.drewN nq := ⟨_, rfl⟩
      have HK3 : Hid (Kept (fun _ => False) w1 W3) := Lib.hid (by rw [hW3]; exact HK2.out.drewN _)
      have HS3 : Hid (RSt w W3 T F nm v qs j sz dead) := Lib.hid (by rw [hW3]; exact HS2.out.stay ((Kept.refl _ _).drewN _))
      have y1 : W3.cell? ⟨D, 1, none⟩ = some (.slice A1 bl c1) := by rw [hW3]; exact HB2.out.c1
      rw [← hW3]
      clear hW3 y0 t3
      go_upto_region 4 with (go_at_call 52; refine (HKT.out W3 HK3.out).mono ?_; rintro e w4 ⟨v4, q4, rfl, ho4, hc4⟩; obtain ⟨A4, c4, hv4, -, -, hp4⟩ := ho4.at_; subst hv4; have HP4 := Lib.hid hp4; have HC4 := Lib.hid hc4; have HS4 := Lib.hid (HS3.out.stay ho4.kept); clear ho4 hc4 hp4)
      obtain ⟨Av, cv, rfl, hAv⟩ := HS4.out.at_
      have HPut := Lib.hid (kPut_any w4 Av A4 qs.length cv q4.length c4 qs q4 rfl rfl (by
        have h1 := congrArg List.length hC.out
        have h2 := congrArg List.length HC4.out
        have h3 := foldP_len (parts.take j)
        have h4 : (parts.take j).flatten.length ≤ parts.flatten.length := by
          conv => rhs; rw [← List.take_append_drop j parts, List.flatten_append, List.length_append]
          omega
        have h5 := (Hpa.out l (List.mem_of_getElem? Hl.out)).1
        have h6 := Hfl.out
        simp only [List.length_map] at h1 h2
        omega) (by
        have h1 : ∀ x ∈ foldP (parts.take j), x.2.1.length ≤ 1000000000 := foldP_all (Q := fun x => x.2.1.length ≤ 1000000000) fun l hl p hp => Nat.le_trans ((Hpa.out l (List.mem_of_mem_take hl)).2.2 p hp).2 (by omega)
        rw [← hC.out] at h1
        exact fun p hp => h1 _ (List.mem_map_of_mem hp)) (by
        intro p hp
        have h1 : p.core ∈ l.map normP := by rw [← HC4.out]; exact List.mem_map_of_mem hp
        obtain ⟨q, hq, he⟩ := List.mem_map.1 h1
        have h2 : p.b = nb q := congrArg (fun c : Core => c.2.1) he.symm
        have h3 := ((Hpa.out l (List.mem_of_getElem? Hl.out)).2.2 q hq).2
        rw [h2]; unfold nb; split
        · simp
        · omega) hAv HP4.out)
      obtain ⟨l1, hl1⟩ : ∃ l1, l1 = qs.length := ⟨_, rfl⟩
      obtain ⟨l4, hl4⟩ : ∃ l4, l4 = q4.length := ⟨_, rfl⟩
      have HSS : Hid (∀ W1 v' qs', OwnP w4 W1 v' qs' → RSt w (W1.setCell ⟨T, 2, none⟩ v') T F nm v' qs' j sz dead) := Lib.hid fun W1 v' qs' h => HS4.out.put h
      rw [← hl1] at HPut HS4
      rw [← hl4] at HPut
      have t2 := HS4.out.sb.c2
      have Hl4 := Lib.hid (And.intro hl1 hl4)
      rw [← hl4]
      clear hAv hl1 hl4 y1
      go_upto_region 5 with (go_at_call 33; refine HPut.out.mono ?_; rintro e w5 ⟨v5, q5, rfl, ho5, hc5⟩; obtain ⟨A5, c5, rfl⟩ := own_slice ho5.row; have HO5 := Lib.hid ho5; have HC5 := Lib.hid hc5; have t2' := (HS4.out.sb.kept' ho5.kept).c2; have t2f := (HS4.out.sb.kept' ho5.kept).fz 2; clear ho5 hc5)
      have HS5 : Hid (RSt w (w5.setCell ⟨T, 2, none⟩ (.slice A5 q5.length c5)) T F nm (.slice A5 q5.length c5) q5 j sz dead) := Lib.hid (HSS.out _ _ _ HO5.out)
      obtain ⟨W6, hW6⟩ : ∃ W6, W6 = w5.setCell ⟨T, 2, none⟩ (.slice A5 q5.length c5) := ⟨_, rfl⟩
      rw [← hW6] at HS5 ⊢
      clear hW6 t2 t2' t2f
      have t3 := HS5.out.sb.c3
      have f3 := HS5.out.sb.fz 3
      have hj9 : (j : Int) ≤ 1000000 := by omega
      have hsz9 : (sz : Int) ≤ 5000000 := by omega
      have hk8 : (k : Int) ≤ 32784 := by omega
      go_upto_region 6 with fail
      obtain ⟨W7, hW7⟩ : ∃ W7, W7 = W6.setCell ⟨T, 3, none⟩ (.int .u64 ((j : Int) + 1)) := ⟨_, rfl⟩
      have HS7 : Hid (RSt w W7 T F nm (.slice A5 q5.length c5) q5 (j + 1) sz dead) := Lib.hid (by
        rw [hW7, show (j : Int) + 1 = ((j + 1 : Nat) : Int) by omega]
        exact HS5.out.turn (HS5.out.sb.s3 (j + 1)) (kF W6 T 3 _))
      rw [← hW7]
      clear hW7 t3 f3
      have t4 := HS7.out.sb.c4
      have f4 := HS7.out.sb.fz 4
      go_wp2
      go_roundw
      case rel =>
        refine ⟨j + 1, .slice A5 q5.length c5, q5, by omega, Lib.hid ?_, Lib.hid ?_⟩
        · have h1 := HS7.out.turn (HS7.out.sb.s4 (sz + k)) (kF W7 T 4 _)
          have h2 := Hsz.out
          rw [h2.2, ← h2.1, ← Hk.out]
          rw [show ((sz + k : Nat) : Int) = (sz : Int) + (k : Int) by omega] at h1
          exact h1
        · rw [HC5.out, hC.out, HC4.out, putC_norm, List.take_add_one, Hl.out, Option.toList_some, foldP_snoc]
      case measure =>
        have h1 := hS.out.sb.c3
        have h2 := (HS7.out.turn (HS7.out.sb.s4 (sz + k)) (kF W7 T 4 _)).sb.c3
        rw [show ((sz + k : Nat) : Int) = (sz : Int) + (k : Int) by omega] at h2
        rw [h1, h2]
        simp only [cellNat]
        omega
    · have hjp : j = pn := by omega
      subst hjp
      have hpq : j = parts.length := Hpn.out
      have hrest : b.drop sz = (frameB j x).take m := by
        rw [HP.out, hsz, hpq]; exact frs_end parts _
      have hl2 : n2 = (b.drop sz).length := by rw [List.length_drop, hn2, Hn.out]
      have hm := Hm.out
      rw [← hpq] at hm
      have hml : (b.drop sz).length = m := by rw [hrest, List.length_take]; omega
      have HTk : Hid (Calls Tryz.prog 51 #[.slice A2 n2 c2] wr (TakeShort wr)) := Lib.hid (by
        by_cases h16 : n2 < 16
        · exact fTake_less wr A2 n2 c2 h16
        · refine fTake_part wr A2 n2 c2 j x (b.drop sz) hl2 (by omega) (hb2 wr hBs) Hx.out (by omega) (by omega) ?_
          rw [hrest, show n2 = m by omega])
      have Hsz := Lib.hid hsz
      clear hBs hb2 hA2 hn2 hc2 hrest hl2 hm hml hsz
      go_upto_region 1 with (go_at_call 51; refine HTk.out.mono ?_; rintro e w1 ⟨rfl, hk1⟩; have HS1 := Lib.hid (hS.out.stay hk1); clear hk1)
      go_quiet (fail)
      go_wp2
      rw [Exit.noGoto_normal]
      go_end0
      obtain ⟨W2, hW2⟩ : ∃ W2, W2 = (w1.alloc (.cells #[.int .u64 0, .slice none 0 0] 88)).drewN nq := ⟨_, rfl⟩
      have h2 : Kept (fun _ => False) w1 W2 := by rw [hW2]; exact ((Kept.refl _ w1).alloc _).drewN _
      have h3 := HS1.out.stay h2
      rw [Hsz.out, hpq, List.take_length] at h3
      have h4 := hC.out
      rw [hpq, List.take_length] at h4
      rw [← hW2]
      exact ⟨rfl, v, qs, h3, h4⟩
end Go.Proofs.YtcifhfdjigfeiaaGreatDoor
end
