import Derived.Test.YtibalgfejfjndaaGreatDoorMah
import Derived.Deep.QuietTactic
import Derived.BigQuiet
import Derived.WalkSpells
import Derived.WalkLawsBesides
import Derived.Maps.AppendAt
import Derived.Test.YtibalgfejfjndaaGreatDoorMay
/-! couranthelp: Own, Kept, Same, Plain of bytes (lines of wip/finger, turned). -/
section
set_option linter.unusedVariables false
set_option linter.unusedSimpArgs false
namespace Go.Proofs.YtibalgfejfjndaaGreatDoor
open Go.RowKit

/-- A block of bytes of the call's own: its first cells are known. -/
def Row (w : World) (B n : Nat) (fs : List Value) : Prop :=
  ∃ cur : Array Value, w.heap[B]? = some (.cells cur 5 (0, 0)) ∧ cur.size = n ∧ ∀ (j : Nat) (u : Value), fs[j]? = some u → cur[j]? = some u
theorem Row.cell {w : World} {B n : Nat} {fs : List Value} (h : Row w B n fs) (j : Nat) (hj : j < n) : ∃ v, w.cell? ⟨B, j, none⟩ = some v := by
  obtain ⟨cur, h1, h2, h3⟩ := h
  exact ⟨cur[j]'(by omega), by simp [World.cell?, h1]⟩
theorem Row.at {w : World} {B n : Nat} {fs : List Value} (h : Row w B n fs) (j : Nat) (u : Value) (hj : fs[j]? = some u) : w.cell? ⟨B, j, none⟩ = some u := by
  obtain ⟨cur, h1, h2, h3⟩ := h
  have := h3 j u hj
  simp [World.cell?, h1, this]
theorem Row.frozen {w : World} {B n : Nat} {fs : List Value} (h : Row w B n fs) (j : Nat) : w.frozen? ⟨B, j, none⟩ = false := by
  obtain ⟨cur, h1, h2, h3⟩ := h
  simp [World.frozen?, h1]
theorem Row.push {w : World} {B n : Nat} {fs : List Value} (h : Row w B n fs) (v : Value) (j : Nat) (hj : j = fs.length) (hn : j < n) : Row (w.setCell ⟨B, j, none⟩ v) B n (fs ++ [v]) := by
  obtain ⟨cur, h1, h2, h3⟩ := h
  refine ⟨cur.setIfInBounds j v, ?_, by simp [h2], ?_⟩
  · simp only [World.setCell, Array.getElem?_modify, if_true, h1]; rfl
  · intro i u hi
    rw [List.getElem?_append] at hi
    split at hi
    · rw [Array.getElem?_setIfInBounds_ne (by omega)]; exact h3 i u hi
    · rename_i hlt
      have h0 : i - fs.length = 0 := by
        have := (List.getElem?_eq_some_iff.1 hi).1
        simp at this; omega
      rw [h0] at hi; simp at hi; subst hi
      obtain rfl : i = j := by omega
      rw [Array.getElem?_setIfInBounds_self_of_lt (by omega)]
theorem Row.of_own {w : World} {base n g cap : Nat} {xs : List Value} (h : w.ownsRow base 5 1 (.slice (some ⟨g, 0, none⟩) n cap) n xs) (hn : 0 < cap) : Row w g cap xs := by
  rcases h with ⟨h0, ⟨h1, _⟩ | ⟨g', cap', cur, h1, h2, h3, h4, h5, h6, h7⟩⟩
  · cases h1
  · cases h1
    refine ⟨cur, h3, by simpa using h6, fun j u hu => ?_⟩
    rw [← h7] at hu
    have hj := (List.getElem?_eq_some_iff.1 hu).1
    simp at hj
    rw [List.getElem?_take_of_lt (by omega)] at hu
    simpa using hu
theorem Row.below {w w1 : World} {B n : Nat} {fs : List Value} (h : Row w B n fs) (hb : Below w.heap.size w w1) : Row w1 B n fs := by
  obtain ⟨cur, h1, h2, h3⟩ := h
  exact ⟨cur, by rw [hb.block B (Array.getElem?_eq_some_iff.1 h1).1]; exact h1, h2, h3⟩

set_option maxRecDepth 100000 in
set_option maxHeartbeats 2000000 in
theorem own_any (w : World) (A : Option Addr) (cap : Nat) (xs : List UInt8) (fill : UInt8) (hn : xs.length ≤ 20000) (hb : Bs w A xs) (hA : A = none → cap = 0) :
    Calls Tryz.prog 28 #[.slice A xs.length cap, bv fill] w fun e w' => e = .returned (.slice (some ⟨w.heap.size, 0, none⟩) xs.length (xs.length + 3)) ∧ Row w' w.heap.size (xs.length + 3) (xs.map bv ++ List.replicate 3 (bv fill)) ∧ Below w.heap.size w w' := by
  obtain ⟨n, hnn⟩ : ∃ n, n = xs.length := ⟨_, rfl⟩
  rw [← hnn] at hn ⊢
  have Hn := Lib.hid hnn
  clear hnn
  obtain ⟨i0, hi, hz0, hz1, hz2⟩ := info_parts infoU8
  have hnone : A = none → n = 0 ∧ cap = 0 := fun h => ⟨by have := Hn.out; subst h; rw [this, hb.1 rfl]; rfl, hA h⟩
  have Hno := Lib.hid hnone
  clear hnone hA
  obtain ⟨fv, hfv⟩ : ∃ fv, fv = bv fill := ⟨_, rfl⟩
  rw [← hfv]
  have h1c : fv.oneCell' = true := by subst hfv; rfl
  have Hf := Lib.hid hfv
  obtain ⟨fn, hfn⟩ : ∃ fn : Int, fv = .int .u8 fn := ⟨_, hfv⟩
  clear hfv
  subst hfn
  go_enter Tryz.func28, Tryz.ntmps28
  go_wp2_with (first | (at_make; refine wpList_make_own _ rfl _ _ 30 rfl (w.heap.size) 5 i0 (.int .u8 0) 1 Tryz.underlying30 hi hz0 hz1 .i64 .i64 ((n:Int)+3) (n+3) rfl rfl (by omega) ?b1 ?b2 ?b3 ?_; rotate_right; intro w1 hown hgrow) | (at_builtin; refine wpList_append_fits_any _ rfl _ _ 30 rfl (w.heap.size) 5 i0 1 Tryz.underlying30 hi hz1 w.heap.size 0 (n+3) [] rfl hown A n cap (xs.map bv) rfl ?c1 Hno.out ?c2 ?c3 ?c4 ?_; rotate_right; intro w2 hown2 hgrow2))
  case b1 => rw [hz2]; omega
  case b2 => unfold maxLen; omega
  case b3 => omega
  case c1 => simp [Hn.out]
  case c2 => exact (hb.kept (Kept.of_below ((Below.refl _ _).grown hgrow (Nat.le_refl _) (fun k e => by cases e)) (fun _ => False) (fun k h1 h2 => by omega)) (by simp)).2
  case c3 => simp [bv, Value.oneCell']
  case c4 => omega
  have hr2 := Row.of_own hown2 (by omega)
  have hB2 : Below w.heap.size w w2 := ((Below.refl _ _).grown hgrow (Nat.le_refl _) (fun k e => by cases e)).grown hgrow2 hgrow.size (fun k e => by cases e; exact Nat.le_refl _)
  clear hown hown2 hgrow hgrow2
  simp only [List.nil_append] at hr2
  go_loopw [7] (fun i wr => ∃ k : Nat, k ≤ 3 ∧ i = .int .i64 (n + k) ∧ Row wr w.heap.size (n + 3) (xs.map bv ++ List.replicate k (.int .u8 fn)) ∧ Below w.heap.size w wr) (fun i _ => n + 3 - (intOf i).toNat)
  case atStart => exact ⟨0, by omega, by simp, by simpa using hr2, hB2⟩
  case round =>
    obtain ⟨k, hk, rfl, hr, hB⟩ := hrel
    by_cases hlt : k < 3
    · obtain ⟨v, hv⟩ := hr.cell (n + k) (by omega)
      have hfz := hr.frozen (n + k)
      have HR := Lib.hid hr
      have HBB := Lib.hid hB
      clear hr hB hr2 hB2
      go_wp2
      go_roundw
      case rel => exact ⟨k + 1, by omega, by go_num, by have := HR.out.push (.int .u8 fn) (n + k) (by simp [Hn.out]) (by omega); simpa [List.replicate_succ'] using this, HBB.out.setCell (Nat.le_refl _) _⟩
      case measure => simp [intOf]; omega
    · obtain rfl : k = 3 := by omega
      go_wp2
      go_ret
      exact ⟨rfl, hr, hB⟩
set_option maxRecDepth 100000 in
set_option maxHeartbeats 2000000 in
theorem eqb_any (w : World) (x y : UInt8) : Calls Tryz.prog 74 #[bv x, bv y] w fun e w' => e = .returned (.bool (x == y)) ∧ w' = w := by
  have h : (((x.toNat : Nat) : Int) == ((y.toNat : Nat) : Int)) = (x == y) := by
    rw [Bool.eq_iff_iff, beq_iff_eq, beq_iff_eq]
    exact ⟨fun h => UInt8.toNat_inj.1 (by omega), fun h => by rw [h]⟩
  have H := Lib.hid h
  clear h
  unfold bv
  go_enter Tryz.func74, Tryz.ntmps74
  go_wp2
  go_ret
  exact ⟨ret_bool H.out, rfl⟩

set_option maxRecDepth 100000 in
set_option maxHeartbeats 2000000 in
theorem eqb_true (z : Int) (w : World) : Calls Tryz.prog 74 #[.int .u8 z, .int .u8 z] w fun e w' => e = .returned (.bool true) ∧ w' = w := by
  go_enter Tryz.func74, Tryz.ntmps74
  go_wp2
  go_ret
  exact ⟨ret_bool (by simp), rfl⟩

set_option maxRecDepth 100000 in
set_option maxHeartbeats 2000000 in
theorem same_some (w : World) (a1 a2 : Addr) (c c' n : Nat) (xs : List UInt8) (hn : n ≤ 20000) (hnn : Hid (n = xs.length)) (hc : Hid (∀ j (h : j < xs.length), w.cell? (a1.add j) = some (bv xs[j]))) (hc' : Hid (∀ j (h : j < xs.length), w.cell? (a2.add j) = some (bv xs[j]))) :
    Calls Tryz.prog 73 #[.slice (some a1) n c, .slice (some a2) n c', .func (.func 74) #[] #[]] w fun e w' => e = .returned (.bool true) ∧ ∃ m, w' = w.drewN m := by
  go_enter Tryz.func73, Tryz.ntmps73
  go_wp2_with fail
  go_loopw [7] (fun i wr => ∃ k : Nat, k ≤ n ∧ i = .int .i64 k ∧ Hid (∃ m, wr = w.drewN m)) (fun i _ => n - (intOf i).toNat)
  case atStart => exact ⟨0, by omega, rfl, Lib.hid ⟨0, rfl⟩⟩
  case round =>
    obtain ⟨k, hk, rfl, hw⟩ := hrel
    obtain ⟨m, rfl⟩ := hw.out
    clear hw
    by_cases hlt : k < n
    · have hl : k < xs.length := by have := hnn.out; omega
      have h1 : (w.drewN m).cell? (a1.add k) = _ := (hc.out k hl)
      have h2 : (w.drewN m).cell? (a2.add k) = _ := (hc'.out k hl)
      have hz := eqb_any (w.drewN m) xs[k] xs[k]
      rw [show (xs[k] == xs[k]) = true from by simp] at hz
      have hk9 : (k : Int) < (n : Int) := by omega
      generalize hxv : bv xs[k] = xv at *
      have h1c : ∃ z : Int, xv = .int .u8 z := ⟨_, hxv.symm⟩
      clear hxv
      obtain ⟨z, rfl⟩ := h1c
      have Hz := Lib.hid hz
      clear hz
      generalize hW : w.drewN m = W at *
      have HW := Lib.hid hW
      clear hW
      go_wp2_with fail
      go_quiet ((exact Calls.quiet_of_same (eqb_true _ _)))
      go_wp2
      go_roundw
      case rel => exact ⟨k + 1, by omega, by go_num, Lib.hid ⟨m + nq, by rw [← HW.out, World.drewN_drewN]⟩⟩
      case measure => simp [intOf]; omega
    · obtain rfl : k = n := by omega
      go_wp2
      go_ret
      exact ⟨rfl, m, rfl⟩

set_option maxRecDepth 100000 in
set_option maxHeartbeats 2000000 in
theorem same_none (w : World) (A A' : Option Addr) (c c' : Nat) :
    Calls Tryz.prog 73 #[.slice A 0 c, .slice A' 0 c', .func (.func 74) #[] #[]] w fun e w' => e = .returned (.bool true) ∧ ∃ m, w' = w.drewN m := by
  go_enter Tryz.func73, Tryz.ntmps73
  go_wp2_with fail
  go_loop [7] (fun i => i = .int .i64 0) (fun _ => 0)
  case atStart => rfl
  case round =>
    obtain rfl := hrel
    go_wp2
    go_ret
    exact ⟨rfl, 0, rfl⟩

theorem same_any (w : World) (A A' : Option Addr) (c c' : Nat) (xs : List UInt8) (hn : xs.length ≤ 20000) (h : Bs w A xs) (h' : Bs w A' xs) :
    Calls Tryz.prog 73 #[.slice A xs.length c, .slice A' xs.length c', .func (.func 74) #[] #[]] w fun e w' => e = .returned (.bool true) ∧ ∃ m, w' = w.drewN m := by
  by_cases he : xs = []
  · subst he; exact same_none w A A' c c'
  · cases A with
    | none => exact absurd (h.1 rfl) he
    | some a1 =>
      cases A' with
      | none => exact absurd (h'.1 rfl) he
      | some a2 => exact same_some w a1 a2 c c' xs.length xs hn (Lib.hid rfl) (Lib.hid fun j hj => h.2 a1 rfl j _ (by simp [hj])) (Lib.hid fun j hj => h'.2 a2 rfl j _ (by simp [hj]))

set_option maxRecDepth 100000 in
set_option maxHeartbeats 2000000 in
theorem plain_any (w : World) (A A' : Option Addr) (c c' : Nat) (xs : List UInt8) (hn : xs.length ≤ 20000) (h : Bs w A xs) (h' : Bs w A' xs) :
    Calls Tryz.prog 58 #[.slice A xs.length c, .slice A' xs.length c'] w fun e w' => e = .returned (.bool true) ∧ ∃ m, w' = w.drewN m := by
  have H := Lib.hid h
  have H' := Lib.hid h'
  clear h h'
  go_enter Tryz.func58, Tryz.ntmps58
  go_wp2_with (go_at_call 73; refine (same_any w A A' c c' xs hn H.out H'.out).mono ?_; rintro e w' ⟨rfl, m, rfl⟩)
  go_ret
  exact ⟨rfl, m, rfl⟩

set_option maxRecDepth 100000 in
set_option maxHeartbeats 2000000 in
theorem kept_any (w : World) (B : Nat) (A : Option Addr) (c n : Nat) (xs : List UInt8) (fill : UInt8) (hn : n ≤ 20000) (hnn : n = xs.length) (hR : Row w B (n + 3) (xs.map bv ++ List.replicate 3 (bv fill))) (h : Bs w A xs) :
    Calls Tryz.prog 29 #[.slice (some ⟨B, 0, none⟩) n (n + 3), .slice A n c, bv fill] w fun e w' => e = .returned (.bool true) ∧ ∃ m, w' = w.drewN m := by
  have HR := Lib.hid hR
  have HN := Lib.hid hnn
  have hRB : Bs w (some ⟨B, 0, none⟩) xs := ⟨fun e => by simp at e, fun ad e j u hu => by
    injection e with e
    subst e
    have hj := (List.getElem?_eq_some_iff.1 hu).1
    have := hR.at j u (by rw [List.getElem?_append_left hj]; exact hu)
    have e1 : (⟨B, 0, none⟩ : Addr).add j = ⟨B, j, none⟩ := by unfold Addr.add; split <;> simp_all
    rwa [e1]⟩
  have HP := Lib.hid (plain_any w (some ⟨B, 0, none⟩) A (n + 3) c xs (by omega) hRB h)
  rw [← hnn] at HP
  obtain ⟨fv, hfv⟩ : ∃ fv : Int, bv fill = .int .u8 fv := ⟨_, rfl⟩
  rw [hfv] at HR ⊢
  clear hfv hRB h hR hnn
  go_enter Tryz.func29, Tryz.ntmps29
  go_wp2_with (go_at_call 58; refine HP.out.mono ?_; rintro e w' ⟨rfl, m, rfl⟩)
  go_loop [8] (fun i => ∃ k : Nat, k ≤ 3 ∧ i = .int .i64 (n + k)) (fun i => n + 3 - (intOf i).toNat)
  case atStart => exact ⟨0, by omega, by simp⟩
  case round =>
    obtain ⟨k, hk, rfl⟩ := hrel
    by_cases hlt : k < 3
    · have hc := HR.out.at (n + k) (.int .u8 fv) (by rw [List.getElem?_append_right (by simp [HN.out]), List.getElem?_replicate, if_pos (by simp [HN.out]; omega)])
      go_wp2
      go_round
      case rel => exact ⟨k + 1, by omega, by go_num⟩
      case measure => simp [intOf]; omega
    · obtain rfl : k = 3 := by omega
      go_wp2
      go_ret
      exact ⟨rfl, m, rfl⟩

end Go.Proofs.YtibalgfejfjndaaGreatDoor
end

/-! SeglogPlays: what each call of a step makes of the world beside its log. -/
section
set_option linter.unusedVariables false
set_option linter.unusedSimpArgs false
namespace Go.Proofs.YtibalgfejfjndaaGreatDoor
open Go.RowKit

/-- The log is up and has G'; SafeB of so many. -/
structure LUP (w0 W : World) (B : Nat) (d : Wd) (G : List Prt) (rs : List BV) (N i : Nat) (G' : List Prt) (s2 : Nat) : Prop where
  ex : ∃ M ps c lim arm v ms sf, WL w0 W B d G rs N d.T d.F M ps c lim arm false v ms false ∧ usedL ps ≤ 1000 * i ∧ (d.room = true → lim = 1048576) ∧ prts ms = G' ∧ LgD ps G' [] sf ∧ SafeB G' s2 sf
/-- The log is down; the world is to become d2. -/
structure DNs (w0 W : World) (B : Nat) (d : Wd) (G : List Prt) (rs : List BV) (N i : Nat) (d2 : Wd) : Prop where
  ex : ∃ M ps c lim arm v ms, WL w0 W B d G rs N d.T d.F M ps c lim arm true v ms true ∧ usedL ps ≤ 1000 * i ∧ (d.room = true → lim = 1048576) ∧ ∃ G1 s1 D t sf, UnderOf w0 d2 G G1 s1 ∧ Sml G1 i ∧ LgD ps D t sf ∧ Under D G1 s1 ∧ SafeB D s1 sf
section
variable {w0 W W' W1 : World} {B N N' T F M c k i s2 I : Nat} {d d' d2 : Wd} {G G' Gn : List Prt} {rs rs' : List BV} {ps : List PF} {lim arm : Int} {dn dead : Bool} {v : Value} {ms : List PM}
/-- What is beside it all turns. -/
theorem WL.side (h : WL w0 W B d G rs N T F M ps c lim arm dn v ms dead) (hk : Kept (fun k => k = I) W W') (h0 : w0.heap.size ≤ I) (h1 : ¬ WFoot B d I) (h2 : ¬ LFoot T F M ps v ms I) (h3 : ∀ p ∈ ms, ∀ r ∈ p.rs, r.val.ownBlock ≠ some I) : WL w0 W' B d G rs N T F M ps c lim arm dn v ms dead := by
  have n2 : ∀ k, LFoot T F M ps v ms k → ¬ k = I := fun k e e2 => h2 (e2 ▸ e)
  exact ⟨h.g.kept hk fun k e e2 => h1 (e2 ▸ e), ⟨h.l.f.kept hk fun k e => n2 k (.inr (.inl e)), h.l.lb.kept hk (n2 T (.inl rfl)), h.l.row.kept hk fun k e => n2 k (.inr (.inr (.inl e))), fun p hp => own_kept (h.l.rr p hp) hk fun k e => n2 k (.inr (.inr (.inr ⟨p, hp, e⟩))), fun p hp r hr => own_kept (h.l.own p hp r hr) hk fun k e e2 => h3 p hp r hr (by rw [e, e2]), h.l.nT, h.l.nv, h.l.nr, h.l.nq, h.l.dj⟩, h.kw.trans hk fun i hi e => by omega, h.lf, h.dj⟩
theorem LUP.stay (h : LUP w0 W B d G rs N i G' s2) (hk : Kept (fun _ => False) W W') : LUP w0 W' B d G rs N i G' s2 := by
  obtain ⟨M, ps, c, lim, arm, v, ms, sf, h1, h2⟩ := h.ex
  exact ⟨M, ps, c, lim, arm, v, ms, sf, h1.stay hk, h2⟩
theorem DNs.stay (h : DNs w0 W B d G rs N i d2) (hk : Kept (fun _ => False) W W') : DNs w0 W' B d G rs N i d2 := by
  obtain ⟨M, ps, c, lim, arm, v, ms, h1, h2⟩ := h.ex
  exact ⟨M, ps, c, lim, arm, v, ms, h1.stay hk, h2⟩
theorem LUP.wmv (h : LUP w0 W B d G rs N i G' s2) (hm : WMv w0 W B d W' d') (hg : WG w0 W' B d' Gn rs' N') (eT : d'.T = d.T) (eF : d'.F = d.F) (er : d'.room = true → d.room = true) : LUP w0 W' B d' Gn rs' N' i G' s2 := by
  obtain ⟨M, ps, c, lim, arm, v, ms, sf, h1, h2, h3, h4⟩ := h.ex
  exact ⟨M, ps, c, lim, arm, v, ms, sf, by rw [eT, eF]; exact h1.wmv hm hg, h2, fun e => h3 (er e), h4⟩
theorem DNs.wmv (h : DNs w0 W B d G rs N i d2) (hm : WMv w0 W B d W' d') (hg : WG w0 W' B d' G rs N) (eT : d'.T = d.T) (eF : d'.F = d.F) (er : d'.room = true → d.room = true) : DNs w0 W' B d' G rs N i d2 := by
  obtain ⟨M, ps, c, lim, arm, v, ms, h1, h2, h3, h4⟩ := h.ex
  exact ⟨M, ps, c, lim, arm, v, ms, by rw [eT, eF]; exact h1.wmv hm hg, h2, fun e => h3 (er e), h4⟩
theorem LUP.g (h : LUP w0 W B d G rs N i G' s2) : WG w0 W B d G rs N := by
  obtain ⟨M, ps, c, lim, arm, v, ms, sf, h1, -⟩ := h.ex
  exact h1.g
theorem LUP.kw (h : LUP w0 W B d G rs N i G' s2) : Kept (fun _ => False) w0 W := by
  obtain ⟨M, ps, c, lim, arm, v, ms, sf, h1, -⟩ := h.ex
  exact h1.kw
theorem DNs.g (h : DNs w0 W B d G rs N i d2) : WG w0 W B d G rs N := by
  obtain ⟨M, ps, c, lim, arm, v, ms, h1, -⟩ := h.ex
  exact h1.g
theorem LUP.set (h : LUP w0 W B d G rs N i G' s2) (j : Nat) (u : Value) (d' : Wd) (hd : d.cells.setIfInBounds j u = d'.cells) (e1 : d'.rv = d.rv) (e2 : d'.sv = d.sv) (e3 : d'.first = d.first) (eT : d'.T = d.T) (eF : d'.F = d.F) (er : d'.room = true → d.room = true) : LUP w0 (W.setCell ⟨B, j, none⟩ u) B d' G rs N i G' s2 := by
  have hp := h.g.put0 j u d' hd e1 e2 e3
  exact h.wmv hp.2 hp.1 eT eF er
theorem DNs.set (h : DNs w0 W B d G rs N i d2) (j : Nat) (u : Value) (d' : Wd) (hd : d.cells.setIfInBounds j u = d'.cells) (e1 : d'.rv = d.rv) (e2 : d'.sv = d.sv) (e3 : d'.first = d.first) (eT : d'.T = d.T) (eF : d'.F = d.F) (er : d'.room = true → d.room = true) : DNs w0 (W.setCell ⟨B, j, none⟩ u) B d' G rs N i d2 := by
  have hp := h.g.put0 j u d' hd e1 e2 e3
  exact h.wmv hp.2 hp.1 eT eF er
theorem LUP.pw (h : LUP w0 W B d G rs N i G d.safe) (hpg : PG d G rs N i) (hd : d.down = false) (hu : d.under = 0) : PW w0 W B d G rs N i := by
  obtain ⟨M, ps, c, lim, arm, v, ms, sf, h1, h2, h3, h4, h5, h6⟩ := h.ex
  exact ⟨hpg, M, ps, c, lim, arm, v, ms, by rw [hd]; exact h1, h2, h3, fun _ => ⟨hu, h4, sf, h5, h6⟩, fun e => by rw [hd] at e; cases e⟩
theorem DNs.pw (h : DNs w0 W B d G rs N i d) (hpg : PG d G rs N i) (hd : d.down = true) : PW w0 W B d G rs N i := by
  obtain ⟨M, ps, c, lim, arm, v, ms, h1, h2, h3, h4⟩ := h.ex
  exact ⟨hpg, M, ps, c, lim, arm, v, ms, by rw [hd]; exact h1, h2, h3, fun e => (by rw [hd] at e; cases e), fun _ => h4⟩
theorem LUP.up (h : LUP w0 W B d G rs N i G' s2) (hj : i ≤ k) : LUP w0 W B d G rs N k G' s2 := by
  obtain ⟨M, ps, c, lim, arm, v, ms, sf, h1, h2, h3, h4⟩ := h.ex
  exact ⟨M, ps, c, lim, arm, v, ms, sf, h1, by omega, h3, h4⟩
theorem PG.up (h : PG d G rs N i) (hj : i ≤ k) : PG d G rs N k := ⟨h.sm.mono hj, h.nm, h.rA, h.sf, by have := h.hN; omega⟩
theorem PW.up (h : PW w0 W B d G rs N i) (hj : i ≤ k) : PW w0 W B d G rs N k := by
  obtain ⟨M, ps, c, lim, arm, v, ms, h1, h2, h3, h4, h5⟩ := h.ex
  refine ⟨h.pg.up hj, M, ps, c, lim, arm, v, ms, h1, by omega, h3, h4, fun e => ?_⟩
  obtain ⟨G1, s1, D, t, sf, g1, g2, g3⟩ := h5 e
  exact ⟨G1, s1, D, t, sf, g1, g2.mono hj, g3⟩
theorem PW.stay (h : PW w0 W B d G rs N i) (hk : Kept (fun _ => False) W W') : PW w0 W' B d G rs N i := by
  obtain ⟨M, ps, c, lim, arm, v, ms, h1, h2⟩ := h.ex
  exact ⟨h.pg, M, ps, c, lim, arm, v, ms, h1.stay hk, h2⟩
theorem PW.g (h : PW w0 W B d G rs N i) : WG w0 W B d G rs N := by
  obtain ⟨M, ps, c, lim, arm, v, ms, h1, -⟩ := h.ex
  exact h1.g
theorem PW.kw (h : PW w0 W B d G rs N i) : Kept (fun _ => False) w0 W := by
  obtain ⟨M, ps, c, lim, arm, v, ms, h1, -⟩ := h.ex
  exact h1.kw
theorem PW.lup (h : PW w0 W B d G rs N i) (hd : d.down = false) : LUP w0 W B d G rs N i G d.safe ∧ d.under = 0 := by
  obtain ⟨M, ps, c, lim, arm, v, ms, h1, h2, h3, h4, -⟩ := h.ex
  obtain ⟨g1, g2, sf, g3, g4⟩ := h4 hd
  rw [hd] at h1
  exact ⟨⟨M, ps, c, lim, arm, v, ms, sf, h1, h2, h3, g2, g3, g4⟩, g1⟩
theorem PW.armed (h : PW w0 W B d G rs N i) (n : Int) (hn : n ≤ 9223372036854775807) : Calls Tryz.prog 19 #[.pointer (some ⟨d.F, 0, none⟩), .int .i64 n] W fun e w' => e = .returned (.tuple #[]) ∧ PW w0 w' B d G rs N i ∧ Kept (fun k => k = d.F) W w' := by
  obtain ⟨M, ps, c, lim, arm, v, ms, h1, h2⟩ := h.ex
  refine (arm_any n W d.F M lim arm d.down h1.l.f.fb).mono ?_
  rintro e w' ⟨he, hb, hk⟩
  exact ⟨he, ⟨h.pg, M, ps, c, lim, _, v, ms, h1.own hb hk h1.l.f.lim0 (by unfold armI; split <;> omega), h2⟩, hk⟩
theorem PW.limited (h : PW w0 W B d G rs N i) (n : Int) : Calls Tryz.prog 22 #[.pointer (some ⟨d.F, 0, none⟩), .int .i64 n] W fun e w' => e = .returned (.tuple #[]) ∧ WG w0 w' B d G rs N ∧ PW w0 (w'.setCell ⟨B, 9, none⟩ (.bool false)) B { d with room := false } G rs N i ∧ Kept (fun k => k = d.F) W w' := by
  obtain ⟨M, ps, c, lim, arm, v, ms, h1, h2, h3, h4, h5⟩ := h.ex
  refine (limit_any n W d.F M lim arm d.down h1.l.f.fb).mono ?_
  rintro e w' ⟨he, hb, hk⟩
  have h6 := h1.own hb hk (boundI_r n) h1.l.f.arm0
  have hp := h6.g.put0 9 (.bool false) { d with room := false } rfl rfl rfl rfl
  exact ⟨he, h6.g, ⟨⟨h.pg.sm, h.pg.nm, h.pg.rA, h.pg.sf, h.pg.hN⟩, M, ps, c, _, arm, v, ms, h6.wmv hp.2 hp.1, h2, fun e => (by cases e), h4, h5⟩, hk⟩
/-- What open wants. -/
theorem PW.sfs (h : PW w0 W B d G rs N i) : ∃ M lim G1 s1 arm, SF w0 W B d G rs N d.F M lim G1 s1 (1000 * i) false arm d.down ∧ UnderOf w0 d G G1 s1 ∧ Sml G1 i ∧ (d.room = true → lim = 1048576) ∧ (d.down = false → d.under = 0) := by
  obtain ⟨M, ps, c, lim, arm, v, ms, h1, h2, h3, h4, h5⟩ := h.ex
  cases hd : d.down
  · obtain ⟨g1, g2, sf, g3, g4⟩ := h4 hd
    rw [hd] at h1
    exact ⟨M, lim, G, d.safe, arm, ⟨ps, c, G, [], sf, h1.wf, g3, Under.self h.pg.sm.cont (by rw [← h1.g.len]; exact h.pg.sf), g4, fun _ e => (by cases e), fun _ _ => ⟨rfl, rfl, h.pg.nm⟩, h2⟩, .inl ⟨g1, rfl, rfl⟩, h.pg.sm, h3, fun _ => g1⟩
  · obtain ⟨G1, s1, D, t, sf, g1, g2, g3, g4, g5⟩ := h5 hd
    rw [hd] at h1
    exact ⟨M, lim, G1, s1, arm, ⟨ps, c, D, t, sf, h1.wf, g3, g4, g5, fun e => (by cases e), fun e => (by cases e), h2⟩, g1, g2, h3, fun e => by cases e⟩
theorem SF.fallenK {G1 : List Prt} {s1 U n : Nat} {wh : Bool} (h : SF w0 W B d G rs N F M lim G1 s1 U wh arm dn) (hs : Sml G1 n) (hn : n ≤ 10000) (hkW : Kept (fun _ => False) W W1) {A : Option Addr} {nk c : Nat} (hks : ∀ j, j < nk → ∃ ad z, A = some ad ∧ w0.cell? (ad.add j) = some (.int .i64 z)) : Calls Tryz.prog 20 #[.pointer (some ⟨F, 0, none⟩), .slice A nk c] W1 fun e w' => e = .returned (.tuple #[]) ∧ SF w0 w' B d G rs N F M lim G1 s1 U true arm true ∧ Kept (fun k => k < W.heap.size) W1 w' := by
  obtain ⟨ps, c, D, t, sf, hw, hl, hu, hsb, h1, h2, h3, h4, h5, h6⟩ := h.files hs hn
  have hw1 := hw.stay hkW
  refine (crash_any W1 F M ps c lim arm dn A nk _ hw1.f (by omega) h5 (Lib.hid fun j hj => ?_)).mono ?_
  · obtain ⟨ad, z, e, hc⟩ := hks j hj
    refine ⟨ad, z, e, fun hm => ?_, hw1.kw.cell hc (by simp)⟩
    have h7 := World.block_lt_of_cell? w0 _ hc
    rw [add_block] at h7
    have := hw.ff _ hm
    omega
  · rintro e w' ⟨he, qs, hq, ha⟩
    obtain ⟨D', t', sf', g1, g2, g3, g4⟩ := hl.fell ha hu hsb hs hn
    exact ⟨he, ⟨qs, _, D', t', sf', hw1.went hq, g1, g2, g3, fun e => (by cases e), fun e => (by cases e), Nat.le_trans (used_fell ha) h3⟩, hq.kept.mono fun k _ e => hw.f.lt k e⟩
/-- A call of a log that is down. -/
theorem PW.downR (h : PW w0 W B d G rs N i) (hd : d.down = true) {fn : Nat} {args : Array Value} {r : Value} (hc : ∀ M lim arm v, LB W d.T d.F nAb v true → FB W d.F M lim arm true → Calls Tryz.prog fn args W (DownR W d.T d.F nAb v r)) : Calls Tryz.prog fn args W fun e w' => e = .returned r ∧ PW w0 w' B d G rs N i ∧ Kept (fun k => k = d.T) W w' := by
  obtain ⟨M, ps, c, lim, arm, v, ms, h1, h2, h3, h4, h5⟩ := h.ex
  have h1' := h1
  rw [hd] at h1'
  refine (hc M lim arm v h1'.l.lb h1'.l.f.fb).mono ?_
  rintro e w' ⟨he, hlb, hk⟩
  exact ⟨he, ⟨h.pg, M, ps, c, lim, arm, v, ms, by rw [hd]; exact h1'.log (MvL.turn hk) (h1'.l.turn hlb hk), h2, h3, h4, h5⟩, hk⟩
theorem PW.downS (h : PW w0 W B d G rs N i) (hkW : Kept (fun _ => False) W W1) (hd : d.down = true) (hI : W.heap.size ≤ I) {fn : Nat} {args : Array Value} {r : Value} (hc : ∀ M lim arm v, LB W1 d.T d.F nAb v true → FB W1 d.F M lim arm true → Calls Tryz.prog fn args W1 (DownR W1 d.T d.F nAb v r)) : Calls Tryz.prog fn args W1 fun e w' => e = .returned r ∧ Kept (fun k => k = d.T) W1 w' ∧ Kept (fun _ => False) w0 w' ∧ ∀ W'', Kept (fun k => k = I) w' W'' → PW w0 W'' B d G rs N i := by
  obtain ⟨M, ps, c, lim, arm, v, ms, h1, h2, h3, h4, h5⟩ := h.ex
  have h0 := h1
  have h1' := h1.stay hkW
  rw [hd] at h1'
  refine (hc M lim arm v h1'.l.lb h1'.l.f.fb).mono ?_
  rintro e w' ⟨he, hlb, hk⟩
  have hw := h1'.log (MvL.turn hk) (h1'.l.turn hlb hk)
  refine ⟨he, hk, hw.kw, fun W'' hk2 => ⟨h.pg, M, ps, c, lim, arm, v, ms, ?_, h2, h3, h4, h5⟩⟩
  rw [hd]
  refine hw.side hk2 (Nat.le_trans h.kw.size hI) (fun e => ?_) (fun e => ?_) fun p hp x hx' e => ?_
  · have := h0.g.lt I e; omega
  · have := LFoot_lt h0.l I e; omega
  · have := own_ltH (h0.l.own p hp x hx') I e; omega
theorem safe_all (a : List Prt) (q : Prt) : SafeB (a ++ [q]) (allR (a ++ [q])).length (szP q) := by
  intro ps p e
  obtain ⟨rfl, e3⟩ := List.append_inj' e rfl
  simp only [List.cons.injEq, and_true] at e3
  subst e3
  refine ⟨Nat.le_refl _, ?_⟩
  have h1 := frsL_take_le q.1 q.2 ((allR (a ++ [q])).length - (allR a).length)
  rw [szP_len] at h1
  exact h1
/-- Sync. -/
theorem PW.syncUp (h : PW w0 W B d G rs N i) (hd : d.down = false) (hi : i ≤ 60) : Calls Tryz.prog 23 #[.pointer (some ⟨d.T, 0, none⟩)] W fun e w' => (e = .returned (.int .i64 13) ∧ DNs w0 w' B d G rs N i { d with down := true }) ∨ (e = .returned (.int .i64 0) ∧ LUP w0 w' B d G rs N i G rs.length) := by
  obtain ⟨⟨M, ps, c, lim, arm, v, ms, sf, h1, h2, h3, h4, h5, h6⟩, hu⟩ := h.lup hd
  have hlen := h1.g.len
  rcases List.eq_nil_or_concat ms with rfl | ⟨a, p, rfl⟩
  · obtain ⟨A, cv, rfl⟩ := h1.l.row.nil
    refine (slSync_none W d.T d.F M nAb lim arm A cv h1.l.lb h1.l.f.fb).mono ?_
    rintro e w' ⟨rfl, rfl⟩
    refine .inr ⟨rfl, M, ps, c, lim, arm, _, [], sf, h1, h2, h3, h4, h5, ?_⟩
    have hG : G = [] := h4.symm
    rw [hG]
    intro q p e; simp at e
  · rw [List.concat_eq_append] at *
    have hG : G = prts a ++ [p.prt] := by rw [← h4, prts_snoc]
    have hc := h.pg.sm.cont
    have hp9 : p.first ≤ 60 := by have := (h.pg.sm.one (p := p.prt) (by rw [hG]; simp)).1; have e : p.prt.1 = p.first := rfl; omega
    have hl : lk ps (fileB nAb p.first) = some (frsP p.prt ++ [], sf) := by
      rw [h5.ld p.first (by omega), hG]
      rw [hG] at hc
      exact lookP_last hc
    refine (slSync_some W d.T d.F M nAb ps c lim arm v a p _ h1.l (by have := h.pg.sm.few; have e := congrArg List.length hG; rw [List.length_append, prts, List.length_map] at e; simp at e; omega) (by decide) (by omega) hl).mono ?_
    rintro e w' ⟨er, ps', c', rfl, ⟨rfl, -, hl', hd'⟩ | ⟨rfl, -, hl', hd'⟩, hm⟩
    · refine .inr ⟨rfl, M, ps', c', lim, _, v, _, szP p.prt, h1.log hm hl', ?_, h3, h4, ?_, ?_⟩
      · have := used_put h1.l.f.names hl'.f.names hd'
        rw [hl] at this
        have e1 : szV (some (frsP p.prt ++ [], sf)) = (frsP p.prt ++ []).length := rfl
        have e2 : szV (some ((frsP p.prt ++ [], sf).1, (frsP p.prt ++ [], sf).1.length)) = (frsP p.prt ++ []).length := rfl
        rw [e1, e2] at this
        omega
      · refine lgD_of hl'.f h.pg.sm (by omega) ?_ fun s hs => by rw [hd', Disk.put_ne _ _ (hs p.first)]; exact h5.ot s hs
        rw [hd', hG]
        rw [hG] at hc
        have h9 := h5.ld
        rw [hG] at h9
        have h8 := h9.last (p' := p.prt) (t' := []) (sf' := szP p.prt) hc rfl (by show p.first < _; omega)
        simpa [szP, frsP, PM.prt] using h8
      · rw [hG, hlen, hG]
        exact safe_all _ _
    · refine .inl ⟨rfl, M, ps', c', lim, _, v, _, h1.log hm hl', ?_, h3, G, d.safe, G, [], sf, .inl ⟨hu, rfl, rfl⟩, h.pg.sm, ?_, Under.self h.pg.sm.cont (by rw [← hlen]; exact h.pg.sf), h6⟩
      · rw [used_same h1.l.f.names hl'.f.names hd']; exact h2
      · exact ⟨by rw [hd']; exact h5.ld, h5.tail, fun s hs => by rw [hd']; exact h5.ot s hs⟩
/-- Trim. -/
theorem PW.trimUp (h : PW w0 W B d G rs N i) (hkW : Kept (fun _ => False) W W1) (hd : d.down = false) (hi : i ≤ 60) (most : Int) (m : Nat) (hm : (m : Int) = max most 0) : Calls Tryz.prog 24 #[.pointer (some ⟨d.T, 0, none⟩), .int .i64 most] W1 fun e w' => Kept (fun k => k < W.heap.size) W1 w' ∧
    ((e = .returned (.tuple #[.int .i64 0, .int .i64 13]) ∧ DNs w0 w' B d G rs N i { d with down := true, under := 2 }) ∨ (e = .returned (.tuple #[.int .i64 ((trimN G m : Nat) : Int), .int .i64 0]) ∧ LUP w0 w' B d G rs N i (G.drop (trimN G m)) (d.safe - (allR (G.take (trimN G m))).length))) := by
  obtain ⟨⟨M, ps, c, lim, arm, v, ms, sf, h0, h2, h3, h4, h5, h6⟩, hu⟩ := h.lup hd
  have h1 := h0.stay hkW
  have hlen := h1.g.len
  refine (slTrim_any W1 d.T d.F M nAb ps c lim arm v ms most m sf i ⟨h1.l, by rw [h4]; exact h5.ld, by rw [h4]; exact h.pg.sm⟩ (by omega) (by decide) hm).mono ?_
  have key : ∀ (j : Nat) (w' : World) (v' : Value) (ps' : List PF) (c' : Nat) (arm' : Int) (dn : Bool), LG w' d.T d.F M nAb ps' c' lim arm' dn v' (ms.drop j) dn → LogD (lk ps') nAb ((prts ms).drop j) [] sf → MvL W1 d.T d.F M ps v ms ps' v' (ms.drop j) w' → (∀ s, (∀ u, s ≠ fileB nAb u) → lk ps' s = lk ps s) → WL w0 w' B d G rs N d.T d.F M ps' c' lim arm' dn v' (ms.drop j) dn ∧ LgD ps' (G.drop j) [] sf ∧ Kept (fun k => k < W.heap.size) W1 w' := fun j w' v' ps' c' arm' dn hl hld hmv ho => by
    refine ⟨h1.log hmv hl, lgD_of hl.f (h.pg.sm.drop j) (by omega) (by rw [← h4]; exact hld) fun s hs => (ho s hs).trans (h5.ot s hs), hmv.kept.mono fun k _ e => LFoot_lt h0.l k e⟩
  rintro e w' (⟨rfl, v', ps', c', arm', hl, hld, hmv, ho, -, hus, -⟩ | ⟨-, rfl, j, hj, v', ps', c', arm', hl, hld, hmv, ho, -, hus, -⟩)
  · obtain ⟨g1, g2, g3⟩ := key _ w' v' ps' c' arm' false hl hld hmv ho
    rw [h4] at g1 ⊢
    exact ⟨g3, .inr ⟨rfl, M, ps', c', lim, arm', v', _, sf, g1, Nat.le_trans hus h2, h3, by rw [prts_drop, h4], by rw [h4] at g2; exact g2, h6.dropN _⟩⟩
  · obtain ⟨g1, g2, g3⟩ := key _ w' v' ps' c' arm' true hl hld hmv ho
    rw [h4] at hj
    have hjG : j < G.length := by
      by_cases hG : G = []
      · rw [hG, trimN_few m (by simp)] at hj; omega
      · have := trimN_lt G m hG; omega
    refine ⟨g3, .inl ⟨rfl, M, ps', c', lim, arm', v', _, g1, Nat.le_trans hus h2, h3, G.drop j, d.safe - (allR (G.take j)).length, G.drop j, [], sf, .inr (.inr ⟨rfl, j, hjG, rfl, rfl⟩), h.pg.sm.drop j, g2, Under.self (h.pg.sm.cont.drop j) ?_, h6.dropN j⟩⟩
    have e2 := congrArg List.length (allR_drop G j)
    rw [List.length_append] at e2
    have := h.pg.sf
    omega
theorem PW.isDown (h : PW w0 W B d G rs N i) (hd : d.down = true) : Calls Tryz.prog 11 #[.pointer (some ⟨d.F, 0, none⟩)] W fun e w' => e = .returned (.bool true) ∧ w' = W := by
  obtain ⟨M, ps, c, lim, arm, v, ms, h1, -⟩ := h.ex
  rw [hd] at h1
  refine (down_any W d.F M lim arm true h1.l.f.fb).mono ?_
  rintro e w' ⟨rfl, rfl⟩
  exact ⟨rfl, rfl⟩
theorem PW.ltF (h : PW w0 W B d G rs N i) : d.F < W.heap.size ∧ d.T < W.heap.size := by
  obtain ⟨M, ps, c, lim, arm, v, ms, h1, -⟩ := h.ex
  exact ⟨h1.l.f.lt _ (by simp [foot]), h1.l.lb.lt⟩
end
end Go.Proofs.YtibalgfejfjndaaGreatDoor
end

/-! SeglogPlays: an append of a step. -/
section
set_option linter.unusedVariables false
set_option linter.unusedSimpArgs false
namespace Go.Proofs.YtibalgfejfjndaaGreatDoor
open Go.RowKit
section
variable {w0 W W' W1 : World} {B N i I c : Nat} {d : Wd} {G : List Prt} {rs : List BV} {xs : List UInt8}
theorem PW.appUp {r : BV} (h : PW w0 W B d G rs N i) (hkW : Kept (fun _ => False) W W1) (hd : d.down = false) (hi : i ≤ 60) (hI : W.heap.size ≤ I) (hI2 : I < W1.heap.size) (hx : ∀ W', W'.heap[I]? = W1.heap[I]? → Bs W' (some ⟨I, 0, none⟩) r.b) (hl : r.b.length ≤ 900) (hbs : Bs w0 r.A r.b) (hrA : r.A = none → r.c = 0) :
    Calls Tryz.prog 17 #[.pointer (some ⟨d.T, 0, none⟩), .slice (some ⟨I, 0, none⟩) r.b.length c] W1 fun e w' => Kept (fun k => w0.heap.size ≤ k ∧ k < W.heap.size) W1 w' ∧ ((e = .returned (.tuple #[.int .u64 ((nxtP G : Nat) : Int), .int .i64 0]) ∧ ∀ W'', Kept (fun k => k = I) w' W'' → LUP w0 W'' B d G rs N (i + 1) (logPut G r.b) (putSafe G d.safe)) ∨
      (e = .returned (.tuple #[.int .u64 0, .int .i64 14]) ∧ d.room = false ∧ ∀ W'', Kept (fun k => k = I) w' W'' → LUP w0 W'' B d G rs N (i + 1) G d.safe) ∨
      (e = .returned (.tuple #[.int .u64 0, .int .i64 13]) ∧ ∀ W'', Kept (fun k => k = I) w' W'' → DNs w0 W'' B d G rs N (i + 1) { d with down := true, under := 1, bb := r.val })) := by
  obtain ⟨⟨M, ps, c0, lim, arm, v, ms, sf, h0, h2, h3, h4, h5, h6⟩, hu⟩ := h.lup hd
  have h1 := h0.stay hkW
  have hlen := h1.g.len
  have hsf := h.pg.sf
  rw [hlen] at hsf
  have hsm := h.pg.sm
  refine (slAppend_any W1 d.T d.F M nAb ps c0 lim arm v ms sf (some ⟨I, 0, none⟩) r.b.length c r.b h1.l (LS.pre (N := i) ⟨h1.l, by rw [h4]; exact h5.ld, by rw [h4]; exact hsm⟩ (by omega) (by decide) nAb_fullB (by omega) (fun W' hW' => hx W' (hW'.block I hI2 fun e => by have := LFoot_lt h0.l I e; omega)) rfl (fun e => by cases e) (by omega))).mono ?_
  rintro e w' ⟨er, ps', c', v', ms', arm', dn', rfl, hl', hm, -, ho, -, hus, hcs⟩
  have hw := h1.log hm hl'
  have hk' : Kept (fun k => w0.heap.size ≤ k ∧ k < W.heap.size) W1 w' := hm.kept.mono fun k _ e => ⟨h0.lf k e, LFoot_lt h0.l k e⟩
  have side : ∀ W'', Kept (fun k => k = I) w' W'' → WL w0 W'' B d G rs N d.T d.F M ps' c' lim arm' dn' v' ms' dn' := fun W'' hk => by
    refine hw.side hk (Nat.le_trans h.kw.size hI) (fun e => ?_) (fun e => ?_) fun p hp x hx' e => ?_
    · have := h0.g.lt I e; omega
    · rcases hm.feet I e with e | e
      · have := LFoot_lt h0.l I e; omega
      · omega
    · rcases hm.recs p hp x hx' I e with ⟨q, hq, y, hy, e2⟩ | e2
      · have := own_ltH (h0.l.own q hq y hy) I e2; omega
      · omega
  refine ⟨hk', ?_⟩
  have hot : ∀ s, (∀ u, s ≠ fileB nAb u) → lk ps' s = none := fun s hs => (ho s hs).trans (h5.ot s hs)
  rcases hcs with ⟨rfl, rfl, hp, hld⟩ | ⟨rfl, rfl, hlim, rfl, rfl, sf', hsf', hld⟩ | ⟨rfl, -, rfl, rfl, rfl, hld⟩
  · refine .inl ⟨by rw [h4]; rfl, fun W'' hk => ⟨M, ps', c', lim, arm', v', ms', _, side W'' hk, by omega, h3, by rw [hp, h4], ?_, (h6.putS r.b hsf).1⟩⟩
    rw [h4] at hld
    exact lgD_of hl'.f (hsm.put (by omega)) (by omega) hld hot
  · refine .inr (.inl ⟨rfl, ?_, fun W'' hk => ⟨M, ps', c', lim, arm', v', ms', sf', side W'' hk, by omega, h3, h4, ?_, ?_⟩⟩)
    · cases hr : d.room
      · rfl
      · have := h3 hr
        omega
    · rw [h4] at hld
      exact lgD_of hl'.f hsm (by omega) hld hot
    · intro a q e
      obtain ⟨g1, g2⟩ := h6 a q e
      exact ⟨g1, Nat.le_trans g2 hsf'⟩
  · refine .inr (.inr ⟨rfl, fun W'' hk => ⟨M, ps', c', lim, arm', v', ms', side W'' hk, by omega, h3, logPut G r.b, d.safe, ?_⟩⟩)
    rw [h4] at hld
    have hU : UnderOf w0 { d with down := true, under := 1, bb := r.val } G (logPut G r.b) d.safe := .inr (.inl ⟨rfl, r, rfl, by omega, hbs, hrA, rfl, rfl⟩)
    have hS1 : Sml (logPut G r.b) (i + 1) := hsm.put (by omega)
    rcases hld with hld | hld
    · exact ⟨G, [], sf, hU, hS1, lgD_of hl'.f hsm (by omega) hld hot, (Under.self hsm.cont hsf).put r.b, h6⟩
    · exact ⟨logPut G r.b, [], _, hU, hS1, lgD_of hl'.f hS1 (by omega) hld hot, Under.self hS1.cont (by rw [logPut_all]; simp only [List.length_append]; omega), h6.put r.b hsf⟩
theorem Row.kept {S : Nat → Prop} {m : Nat} {fs : List Value} (h : Row W B m fs) (hk : Kept S W W') (hS : ¬ S B) : Row W' B m fs := by
  obtain ⟨cur, h1, h2, h3⟩ := h
  exact ⟨cur, hk.heap h1 hS, h2, h3⟩
theorem Row.bs {m : Nat} {fs : List Value} (h : Row W B m (xs.map bv ++ fs)) (hm : xs.length ≤ m) (hW : W'.heap[B]? = W.heap[B]?) : Bs W' (some ⟨B, 0, none⟩) xs := by
  obtain ⟨cur, h1, h2, h3⟩ := h
  refine ⟨fun e => (by cases e), fun ad e j u hu => ?_⟩
  injection e with e
  subst e
  have e1 : (⟨B, 0, none⟩ : Addr).add j = ⟨B, j, none⟩ := by unfold Addr.add; split <;> simp_all
  rw [e1]
  have hj := (List.getElem?_eq_some_iff.1 hu).1
  have h4 := h3 j u (by rw [List.getElem?_append_left hj]; exact hu)
  rw [h1] at hW
  simp [World.cell?, hW, h4]
theorem Row.raw {m n : Nat} {fs : List Value} (h : Row W B m (xs.map bv ++ fs)) (hn : n = xs.length) (hm : n ≤ m) : Raw W B n := by
  obtain ⟨cur, h1, h2, h3⟩ := h
  refine ⟨cur, h1, by omega, fun j hj => ?_⟩
  have hx : (xs.map bv)[j]? = some (bv (xs[j]'(by omega))) := by rw [List.getElem?_map, List.getElem?_eq_getElem (by omega)]; rfl
  have h4 := h3 j _ (by rw [List.getElem?_append_left (by rw [List.length_map]; omega)]; exact hx)
  exact ⟨_, by simpa [bv] using h4⟩
theorem Row.lt {m : Nat} {fs : List Value} (h : Row W B m fs) : B < W.heap.size := by
  obtain ⟨cur, h1, -⟩ := h
  exact (Array.getElem?_eq_some_iff.1 h1).1
end
end Go.Proofs.YtibalgfejfjndaaGreatDoor
end
