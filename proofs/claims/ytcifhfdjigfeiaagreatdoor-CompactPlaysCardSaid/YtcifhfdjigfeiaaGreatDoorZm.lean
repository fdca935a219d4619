import Derived.Test.YtcifhfdjigfeiaaGreatDoorZk
/-! compact.frames, walked. -/
section
set_option linter.unusedVariables false
set_option linter.unusedSimpArgs false
namespace Go.Proofs.YtcifhfdjigfeiaaGreatDoor
open Go.RowKit

set_option maxRecDepth 100000 in
set_option maxHeartbeats 8000000 in
theorem frames_any (w : World) (T F : Nat) (nm : ByteArray) (Av : Option Addr) (n cv : Nat) (qs : List PV) (next size : Nat) (dead : Bool) (h : SB w T F nm (.slice Av n cv) next size dead) (hn : n = qs.length) (hl : n ≤ 8000) (hcv : n ≤ cv) (hA : Av = none → cv = 0) (hat : PsAt w Av qs) (hw : ∀ q ∈ qs, wt q ≤ 3000) :
    Calls Tryz.prog 62 #[.pointer (some ⟨T, 0, none⟩)] w fun e w' => ∃ v bs parts, e = .returned v ∧ OwnB w w' v bs ∧ bs.map BV.b = parts.map bytesP ∧ Cut qs parts := by
  have H := Lib.hid h
  have Hn := Lib.hid hn
  have HA := Lib.hid hA
  have Hat := Lib.hid hat
  have Hw := Lib.hid hw
  have hl8 : qs.length ≤ 8000 := by omega
  have hn8 : (n : Int) ≤ 8000 := by omega
  obtain ⟨i0, hi, hz0, hz1, hz2⟩ := info_parts infoBB
  have c2 := h.c2
  clear h hn hA hat hw
  go_enter Tryz.func62, Tryz.ntmps62
  go_wp2_with fail
  clear c2
  go_loopw [3, 4, 11] (fun o f i wr => ∃ (k fr : Nat) (bs : List BV) (parts : List (List PV)), k ≤ n ∧ fr ≤ k ∧ i = .int .i64 k ∧ f = .int .i64 fr ∧ Hid (OwnB w wr o bs) ∧ Hid (Cl qs fr parts) ∧ Hid (bs.map BV.b = parts.map bytesP) ∧ Hid ((bytesP (seg qs fr k)).length ≤ 32768) ∧ Hid (cutS qs k = (parts, fr))) (fun _ _ i _ => n - (intOf i).toNat)
  case atStart => exact ⟨0, 0, [], [], by omega, by omega, rfl, rfl, Lib.hid (OwnB.nil w), Lib.hid (Cl.nil qs), Lib.hid rfl, Lib.hid (by rw [seg_self]; decide), Lib.hid rfl⟩
  case round =>
    obtain ⟨k, fr, bs, parts, hk, hfr, rfl, rfl, ho, hcl, hbp, hE, hcs⟩ := hrel
    have hlen : bs.length ≤ 8000 := by
      have h1 := congrArg List.length hbp.out
      have h2 := hcl.out.len
      simp only [List.length_map] at h1
      omega
    have c2 := (H.out.kept' ho.out.kept).c2
    by_cases hlt : k < n
    · have hk9 : (k : Int) < (n : Int) := by omega
      obtain ⟨q, hq⟩ : ∃ q, qs[k]? = some q := ⟨_, List.getElem?_eq_getElem (by have := Hn.out; omega)⟩
      have Hq := Lib.hid hq
      have HW := Lib.hid (Hw.out q (List.mem_of_getElem? hq))
      have hwk : IntKind.i64.wrap ((k : Int) + 1) = (k : Int) + 1 := by rw [IntKind.wrap_i64]; omega
      obtain ⟨A6, hs6, hp6, hA6⟩ := mid_form Av n fr (k + 1) cv qs Hn.out (by omega) (by omega) hcv HA.out
      obtain ⟨m6, hm6⟩ : ∃ m6, m6 = k + 1 - fr := ⟨_, rfl⟩
      obtain ⟨c6, hc6⟩ : ∃ c6, c6 = cv - fr := ⟨_, rfl⟩
      rw [← hm6, ← hc6] at hs6
      obtain ⟨E6, hE6⟩ : ∃ E6, E6 = (bytesP (seg qs fr (k + 1))).length := ⟨_, rfl⟩
      have HE6 := Lib.hid hE6
      have hs6' : ∀ W, (Instr.slice 30 (.slice Av n cv) (some (.int .i64 (fr : Nat))) (some (.int .i64 ((k : Int) + 1))) none).run Tryz.prog W = .ok (.slice A6 m6 c6) W := hs6
      have HKB6 : Hid (∀ W, Kept (fun _ => False) w W → Calls Tryz.prog 43 #[.slice A6 m6 c6] W (ClonePost W (bytesP (seg qs fr (k + 1))))) := Lib.hid fun W hkw =>
        kBytes_any W A6 m6 c6 _ (by rw [hm6, seg_len (by omega) (by have := Hn.out; omega)]) (by have := seg_le (qs := qs) (f := fr) (k := k + 1) (by omega) (by have := Hn.out; omega) Hw.out hl8; omega) (hp6 W (Hat.out.kept hkw))
      clear hq hs6 hp6 hA6 hm6 hc6 hE6
      by_cases hbig : 32768 < E6
      · have hb9 : (32768 : Int) < (E6 : Int) := by omega
        have hfk : fr < k := by
          rcases Nat.lt_or_ge fr k with h | h
          · exact h
          · obtain rfl : fr = k := by omega
            have := seg_one Hq.out HW.out
            have := HE6.out
            omega
        have HF := Lib.hid (seg_full (Nat.le_of_lt hfk) Hq.out HW.out hl8 (by rw [← HE6.out]; exact hbig))
        obtain ⟨A7, hs7, hp7, hA7⟩ := mid_form Av n fr k cv qs Hn.out (by omega) (by omega) hcv HA.out
        obtain ⟨m7, hm7⟩ : ∃ m7, m7 = k - fr := ⟨_, rfl⟩
        obtain ⟨c7, hc7⟩ : ∃ c7, c7 = cv - fr := ⟨_, rfl⟩
        rw [← hm7, ← hc7] at hs7
        have HKB7 : Hid (∀ W, Kept (fun _ => False) w W → Calls Tryz.prog 43 #[.slice A7 m7 c7] W (ClonePost W (bytesP (seg qs fr k)))) := Lib.hid fun W hkw =>
          kBytes_any W A7 m7 c7 _ (by rw [hm7, seg_len (by omega) (by have := Hn.out; omega)]) (by have := hE.out; omega) (hp7 W (Hat.out.kept hkw))
        clear hp7 hA7 hm7 hc7
        go_upto_region 7 with (go_at_call 43; refine (HKB6.out _ ho.out.kept).mono ?_; rintro e w1 hP; obtain ⟨A1, c1, rfl, ha, -, -⟩ := ClonePost.acc hP; rw [← HE6.out]; have HO1 := Lib.hid (ho.out.stay ha.2); have d2 := (H.out.kept' HO1.out.kept).c2; clear hP ha)
        obtain ⟨E7, hE7⟩ : ∃ E7, E7 = (bytesP (seg qs fr k)).length := ⟨_, rfl⟩
        have HE7 := Lib.hid hE7
        clear hs6' HKB6 c2 hE7
        go_wp2_with (first
          | (at_builtin; refine wpList_append_own _ rfl _ _ 106 rfl w.heap.size 51 i0 (.slice none 0 0) 1 24 Tryz.underlying106 hi hz0 hz1 hz2 rfl (by decide) _ bs.length _ rfl (own_kept HO2.out.row ((Kept.refl (fun _ => False) w2).alloc _) (by simp)) _ 1 1 [.slice A2 E7 c2'] rfl rfl ((cs_new w2 [.slice A2 E7 c2'] 51).2 _ rfl) (by simp [Value.oneCell']) (by unfold maxLen; omega) (by omega) (HO2.out.kept.alloc _).size ?_; intro v' w3 hown hgrow hnil; have HO3 := Lib.hid hown; have HG3 := Lib.hid hgrow; clear hown hgrow hnil)
          | (go_at_call 43; refine (HKB7.out _ HO1.out.kept).mono ?_; rintro e w2 hP; obtain ⟨A2, c2', rfl, ha, -, -⟩ := ClonePost.acc hP; rw [← HE7.out]; have HO2 := Lib.hid (HO1.out.stay ha.2); have HR2 := Lib.hid (own_low ha.1 HO1.out.kept.size); clear hP ha))
        go_roundw
        case rel =>
          refine ⟨k + 1, k, bs ++ [⟨A2, c2', bytesP (seg qs fr k)⟩], parts ++ [seg qs fr k], by omega, by omega, by go_num, rfl, Lib.hid ?_, Lib.hid (hcl.out.snoc hfk (by have := Hn.out; omega) HF.out hE.out), Lib.hid (by rw [List.map_append, List.map_append, hbp.out]; rfl), Lib.hid (seg_one Hq.out HW.out), Lib.hid (by simp only [cutS, hcs.out]; rw [if_pos (by rw [← HE6.out]; exact hbig)])⟩
          have h1 := HO3.out
          have h2 := HR2.out
          rw [HE7.out] at h1
          exact (HO2.out.stay ((Kept.refl (fun _ => False) w2).alloc _)).grow h1 HG3.out (own_kept h2 ((Kept.refl (fun _ => False) w2).alloc _) (by simp))
        case measure => simp [intOf]; omega
      · have hb9 : ¬ (32768 : Int) < (E6 : Int) := by omega
        go_wp2_with (go_at_call 43; refine (HKB6.out _ ho.out.kept).mono ?_; rintro e w1 hP; obtain ⟨A1, c1, rfl, ha, -, -⟩ := ClonePost.acc hP; rw [← HE6.out]; have HO1 := Lib.hid (ho.out.stay ha.2); clear hP ha)
        go_roundw
        case rel => exact ⟨k + 1, fr, bs, parts, by omega, by omega, by go_num, rfl, HO1, hcl, hbp, Lib.hid (by rw [← HE6.out]; omega), Lib.hid (by simp only [cutS, hcs.out]; rw [if_neg (by rw [← HE6.out]; exact hbig)])⟩
        case measure => simp [intOf]; omega
    · obtain rfl : k = n := by omega
      by_cases hfk : fr < k
      · have hf9 : (fr : Int) < (k : Int) := by omega
        obtain ⟨A6, hs6, hp6, hA6, -, -⟩ := from_form Av k fr cv qs Hn.out (by omega) hcv HA.out
        obtain ⟨m6, hm6⟩ : ∃ m6, m6 = k - fr := ⟨_, rfl⟩
        obtain ⟨c6, hc6⟩ : ∃ c6, c6 = cv - fr := ⟨_, rfl⟩
        rw [← hm6, ← hc6] at hs6
        have HKB6 : Hid (∀ W, Kept (fun _ => False) w W → Calls Tryz.prog 43 #[.slice A6 m6 c6] W (ClonePost W (bytesP (seg qs fr k)))) := Lib.hid fun W hkw => by
          have e : seg qs fr k = qs.drop fr := by rw [Hn.out]; exact seg_end
          have hE' := hE.out
          rw [e] at hE' ⊢
          exact kBytes_any W A6 m6 c6 _ (by rw [hm6, List.length_drop, ← Hn.out]) (by omega) (hp6 W (Hat.out.kept hkw))
        obtain ⟨E7, hE7⟩ : ∃ E7, E7 = (bytesP (seg qs fr k)).length := ⟨_, rfl⟩
        have HE7 := Lib.hid hE7
        clear hp6 hA6 hm6 hc6 hE7
        go_wp2_with (first
          | (at_builtin; refine wpList_append_own _ rfl _ _ 106 rfl w.heap.size 51 i0 (.slice none 0 0) 1 24 Tryz.underlying106 hi hz0 hz1 hz2 rfl (by decide) _ bs.length _ rfl (own_kept HO2.out.row ((Kept.refl (fun _ => False) w2).alloc _) (by simp)) _ 1 1 [.slice A2 E7 c2'] rfl rfl ((cs_new w2 [.slice A2 E7 c2'] 51).2 _ rfl) (by simp [Value.oneCell']) (by unfold maxLen; omega) (by omega) (HO2.out.kept.alloc _).size ?_; intro v' w3 hown hgrow hnil; have HO3 := Lib.hid hown; have HG3 := Lib.hid hgrow; clear hown hgrow hnil)
          | (go_at_call 43; refine (HKB6.out _ ho.out.kept).mono ?_; rintro e w2 hP; obtain ⟨A2, c2', rfl, ha, -, -⟩ := ClonePost.acc hP; rw [← HE7.out]; have HO2 := Lib.hid (ho.out.stay ha.2); have HR2 := Lib.hid (own_low ha.1 ho.out.kept.size); clear hP ha))
        go_ret
        have h1 := HO3.out
        have h2 := HR2.out
        rw [HE7.out] at h1
        have hlast := hcl.out.last (by have := Hn.out; omega) (by have h9 := hE.out; rwa [Hn.out] at h9) (by have h9 := hcs.out; rwa [Hn.out] at h9)
        rw [← Hn.out] at hlast
        exact ⟨v', bs ++ [⟨A2, c2', bytesP (seg qs fr k)⟩], parts ++ [seg qs fr k], rfl, (HO2.out.stay ((Kept.refl (fun _ => False) w2).alloc _)).grow (p := ⟨A2, c2', bytesP (seg qs fr k)⟩) h1 HG3.out (own_kept h2 ((Kept.refl (fun _ => False) w2).alloc _) (by simp)), by rw [List.map_append, List.map_append, hbp.out]; rfl, hlast⟩
      · have hf9 : ¬ (fr : Int) < (k : Int) := by omega
        obtain rfl : fr = k := by omega
        go_wp2
        go_ret
        have hcut : Cut qs parts := by have h9 := hcl.out; have h8 := hcs.out; rw [Hn.out] at h9 h8; exact h9.done h8
        first | exact ⟨u3, bs, parts, rfl, ho.out, hbp.out, hcut⟩ | exact ⟨u3, rfl, bs, ho.out, parts, hbp.out, hcut⟩ | exact ⟨u3, rfl, bs, parts, ho.out, hbp.out, hcut⟩
end Go.Proofs.YtcifhfdjigfeiaaGreatDoor
end

/-! slices.Values over slices of bytes; regions that draw, in a round, with calls behind their reads; files with a second file beside. -/
section
set_option linter.unusedVariables false
set_option linter.unusedSimpArgs false
namespace Go.Proofs.YtcifhfdjigfeiaaGreatDoor
open Go.RowKit Go.Sort

/-- Slices of bytes whose cells can be read. -/
def BC (w : World) (A : Option Addr) (ps : List BV) : Prop := ∀ (j : Nat) p, ps[j]? = some p → ∃ ad, A = some ad ∧ w.cell? (ad.add j) = some (.slice p.A p.b.length p.c)
theorem BBs.cells {w : World} {A : Option Addr} {ps : List BV} (h : BBs w A ps) : BC w A ps := fun j p hp => by
  obtain ⟨ad, h1, h2, _⟩ := h j p hp
  exact ⟨ad, h1, h2⟩
theorem BC.same {w w' : World} {A : Option Addr} {ps : List BV} (h : BC w A ps) (hk : ∀ k, rdOf A k → w'.heap[k]? = w.heap[k]?) : BC w' A ps := by
  intro j p hp
  obtain ⟨ad, rfl, hc⟩ := h j p hp
  have hb : w'.heap[(ad.add j).block]? = w.heap[(ad.add j).block]? := by rw [add_block]; exact hk _ ⟨ad, rfl, rfl⟩
  exact ⟨ad, rfl, (World.cell?_of_block hb).trans hc⟩
def encBB (p : BV) : Array Value := #[.slice p.A p.b.length p.c]
set_option maxRecDepth 100000 in
set_option maxHeartbeats 1000000 in
theorem valuesBB_iter (B n c : Nat) (A : Option Addr) (ns : List BV) (w : World) (hb : Boxed w B 106 (.slice A n c)) (hn : n = ns.length) (hl : n ≤ 1000000) (hs : BC w A ns) (hA : ∀ ad, A = some ad → ns = [] ∨ ad.block < w.heap.size) :
    Iter Tryz.prog 83 #[.pointer (some ⟨B, 0, none⟩)] (encBB) (fun _ => False) (fun k => ns ≠ [] ∧ rdOf A k) ns w := by
  intro l J Jx W hW hJ hJx hY h0
  refine callsIn_of_wp Tryz.func83 rfl trivial ?_ rfl
  have hb' : Boxed W B 106 (.slice A n c) := hW.heap hb (by simp)
  have hcp := hb'.cell
  have HS : Hid (BC W A ns) := Lib.hid (by
    by_cases he : ns = []
    · subst he; intro j p hp; simp at hp
    · exact hs.same fun k ⟨ad, e, e2⟩ => hW.block k (by rw [← e2]; exact (hA ad e).resolve_left he) (by simp))
  have Hn := Lib.hid hn
  have HY := Lib.hid hY
  have H0 := Lib.hid h0
  clear hb hb' hY hs hA hn h0
  simp only [Tryz.ntmps83, List.size_toArray, List.length_cons, List.length_nil, Nat.reduceAdd, Nat.reduceSub, Array.replicate_succ, Array.replicate_zero, List.push_toArray, List.append_toArray, List.nil_append, List.cons_append]
  gi_wp2
  gi_loopw [4, 7] (fun _ i wr => ∃ j : Nat, i = .int .i64 j ∧ j ≤ n ∧ Hid (J (ns.take j) wr) ∧ Hid (BC wr A ns)) (fun _ i _ => n - iNat i)
  case atStart => exact ⟨0, rfl, by omega, Lib.hid (by simpa using H0.out), HS⟩
  case round =>
    obtain ⟨j, rfl, hj, hJ1, hS1⟩ := hrel
    by_cases hlt : j < n
    · have hlt' : (j : Int) < (n : Int) := by omega
      have hjn : j < ns.length := by have := Hn.out; omega
      obtain ⟨x, hx⟩ : ∃ x, ns[j]? = some x := ⟨_, List.getElem?_eq_getElem hjn⟩
      have hd : ns.drop j = x :: ns.drop (j + 1) := by
        rw [List.drop_eq_getElem_cons hjn, (List.getElem?_eq_some_iff.1 hx).2]
      obtain ⟨ad, rfl, hc⟩ := hS1.out j x hx
      obtain ⟨fn, tmps, assign, body, hy, hR⟩ := HY.out (ns.take j) x (ns.drop (j + 1)) wr (by rw [← hd, List.take_append_drop]) hJ1.out
      unfold encBB at hy
      have HR := Lib.hid hR
      have Hx := Lib.hid hx
      have Hd := Lib.hid hd
      clear hR hjn hx hd
      gi_wp2
      refine HR.out.mono ?_
      rintro e W3 (⟨rfl, hJ3, _, hk3⟩ | ⟨rfl, hJx3⟩)
      · have HJ3 := Lib.hid hJ3
        have HS3 := Lib.hid (hS1.out.same fun k hk => hk3 k ⟨by intro e; have := Hn.out; rw [e] at this; simp at this; omega, hk⟩)
        clear hJ3 hk3
        gi_wp2
        go_roundw
        case rel =>
          refine ⟨j + 1, congrArg (Value.int .i64) (by omega), by omega, Lib.hid ?_, HS3⟩
          rw [List.take_add_one, Hx.out]
          exact HJ3.out
        case measure => simp only [iNat]; omega
      · gi_wp2
        refine bodyPost_ret (results_none rfl _ _ _) rfl ?_
        refine ⟨⟨_, rfl⟩, .inr ⟨_, ?_, hJx3⟩⟩
        refine ⟨ns.drop (j + 1), ?_⟩
        rw [List.append_assoc, List.singleton_append, ← Hd.out, List.take_append_drop]
    · have hlt' : ¬ (j : Int) < (n : Int) := by omega
      gi_wp2
      refine bodyPost_end (results_none rfl _ _ _) rfl ?_
      have : ns.take j = ns := List.take_of_length_le (by have := Hn.out; omega)
      exact ⟨⟨_, rfl⟩, .inl (by have h := hJ1.out; rw [this] at h; exact h)⟩
theorem valuesBB_of (A : Option Addr) (n c : Nat) (w : World) : Calls Tryz.prog 61 #[.slice A n c] w fun e w' => e = .returned (.func (.func 83) #[] #[.pointer (some ⟨w.heap.size, 0, none⟩)]) ∧ w' = w.alloc (.cells #[.slice A n c] 106) := by
  go_enter Tryz.func61, Tryz.ntmps61
  go_wp2
  go_ret
  exact ⟨rfl, rfl⟩
theorem wpIn_still_calls {P : Program} {n r f id : Nat} {Q : Exit → Act → World → Prop} {a : Act} {w : World} {l : List Oper} (k : Nat) (hm : P.follows .mixedOrders = true) (hB : Region.lexTailB .any l.toArray k = true) (hp : (l.all fun o => plainB o.op || callsB f o.op) = true)
    (he : ∀ args w, (callFunc f args).run P w = .ok (.enter f args) w) (hQ : ¬ LetsOut Q)
    (h : wpStill P l.toArray w.drew (fun a' => wpList P l.toArray Q (l.drop k) a' w.drew) (l.take k) a) : (Code.region id l.toArray true).wpIn (Fence.wide.inRound r) n P Q a w := wpIn_region_calls hm hp he hQ (wpAny_still_tail k hB h)
/-- A second file beside. -/
def TwoK (ps : List PF) (nk : ByteArray) (d : List UInt8) (made : Bool) (nt : ByteArray) (e : List UInt8) : Prop := ∃ pk pt, ps = pk ++ [pt] ∧ OneK pk nk d made ∧ pt.name = nt ∧ pt.b = e
theorem TwoK.used {ps : List PF} {nk nt : ByteArray} {d e : List UInt8} {m : Bool} (h : TwoK ps nk d m nt e) : usedL ps = d.length + e.length := by
  obtain ⟨pk, pt, rfl, h1, -, rfl⟩ := h
  rw [used_mid pk [] pt, List.append_nil, h1.used]
theorem OneK.not {ps : List PF} {nk nt : ByteArray} {d : List UInt8} {m : Bool} (h : OneK ps nk d m) (hne : nk ≠ nt) : ∀ q ∈ ps, q.name ≠ nt := by
  intro q hq e
  rcases h with ⟨rfl, -, -⟩ | ⟨p, rfl, hp, -, -⟩
  · cases hq
  · rw [List.mem_singleton.1 hq, hp] at e
    exact hne e
set_option maxHeartbeats 1000000 in
theorem tnew (W : World) (F M : Nat) (ps : List PF) (clock : Nat) (lim : Int) (nk nt : ByteArray) (d : List UInt8) (made : Bool) (h : FilesAt W F M ps clock lim 0 false) (ho : OneK ps nk d made) (hne : nk ≠ nt) (hs : nt.size ≤ 140737488355328) (hf : fullB nt = true) (hfit : (d.length : Int) ≤ lim) :
    Calls Tryz.prog 44 #[.pointer (some ⟨F, 0, none⟩), .string nt, .slice none 0 0] W fun e w' => e = .returned (.int .i64 0) ∧ ∃ ps' clock', Went W F M ps ps' clock' lim 0 false w' ∧ TwoK ps' nk d made nt [] := by
  have hl := h.lim0.2
  refine (append_new_none nt W F M lim 0 ps clock (ho.not hne) hs hf h (by rw [ho.used]; omega)).mono ?_
  rintro e w' ⟨B, v, rfl, hw⟩
  exact ⟨rfl, _, _, hw, ps, _, rfl, ho, rfl, rfl⟩
set_option maxHeartbeats 1000000 in
theorem tappend (W : World) (F M : Nat) (ps : List PF) (clock : Nat) (lim : Int) (nk nt : ByteArray) (d b : List UInt8) (made : Bool) (A : Option Addr) (n c : Nat) (xs : List UInt8) (h : FilesAt W F M ps clock lim 0 false) (ho : TwoK ps nk d made nt b) (hs : nt.size ≤ 140737488355328) (hf : fullB nt = true)
    (hx : Bs W A xs) (hn : n = xs.length) (hA : A = none → c = 0) (hfit : (xs.length : Int) + ((d.length : Int) + (b.length : Int)) ≤ lim) :
    Calls Tryz.prog 44 #[.pointer (some ⟨F, 0, none⟩), .string nt, .slice A n c] W fun e w' => e = .returned (.int .i64 0) ∧ ∃ ps' clock', Went W F M ps ps' clock' lim 0 false w' ∧ TwoK ps' nk d made nt (b ++ xs) := by
  have hl := h.lim0.2
  have hu := ho.used
  obtain ⟨pk, pt, rfl, h1, rfl, rfl⟩ := ho
  refine (append_old A n c W F M lim 0 pk [] pt clock xs hs hf h (by rw [hu]; omega) hx hn hA (by unfold Fits; rw [hu]; right; omega)).mono ?_
  rintro e w' ⟨u, rfl, hw⟩
  exact ⟨rfl, _, _, hw, pk, _, rfl, h1, rfl, rfl⟩
set_option maxHeartbeats 1000000 in
theorem tsync (W : World) (F M : Nat) (ps : List PF) (clock : Nat) (lim : Int) (nk nt : ByteArray) (d b : List UInt8) (made : Bool) (h : FilesAt W F M ps clock lim 0 false) (ho : TwoK ps nk d made nt b) :
    Calls Tryz.prog 45 #[.pointer (some ⟨F, 0, none⟩), .string nt] W fun e w' => e = .returned (.int .i64 0) ∧ ∃ ps', Went W F M ps ps' clock lim 0 false w' ∧ TwoK ps' nk d made nt b := by
  obtain ⟨pk, pt, rfl, h1, rfl, rfl⟩ := ho
  refine (sync_ok W F M lim 0 pk [] pt clock (by decide) h).mono ?_
  rintro e w' ⟨rfl, hw⟩
  exact ⟨rfl, _, hw, pk, _, rfl, h1, rfl, rfl⟩
set_option maxHeartbeats 1000000 in
theorem trename (W : World) (F M : Nat) (ps : List PF) (clock : Nat) (lim : Int) (nk nt : ByteArray) (d b : List UInt8) (made : Bool) (h : FilesAt W F M ps clock lim 0 false) (ho : TwoK ps nk d made nt b) (hs : nk.size ≤ 140737488355328) (hf : fullB nk = true) :
    Calls Tryz.prog 40 #[.pointer (some ⟨F, 0, none⟩), .string nt, .string nk] W fun e w' => e = .returned (.int .i64 0) ∧ ∃ ps' clock', Went W F M ps ps' clock' lim 0 false w' ∧ OneK ps' nk b true := by
  obtain ⟨pk, pt, rfl, h1, rfl, rfl⟩ := ho
  rcases h1 with ⟨rfl, -, -⟩ | ⟨p, rfl, rfl, -, -⟩
  · refine (rename_new W F M lim 0 [] [] pt nk clock (by decide) hs hf (fun q hq => by simp at hq) h).mono ?_
    rintro e w' ⟨rfl, hw⟩
    exact ⟨rfl, _, _, hw, .inr ⟨_, rfl, rfl, rfl, rfl⟩⟩
  · refine (rename_over W F M lim 0 [p] [] [] [] pt p clock (by decide) hs hf rfl h).mono ?_
    rintro e w' ⟨rfl, hw⟩
    exact ⟨rfl, _, _, hw, .inr ⟨_, rfl, rfl, rfl, rfl⟩⟩
theorem Went.off {S : Nat → Prop} {w W W' : World} {F M : Nat} {ps ps' : List PF} {c : Nat} {lim arm : Int} {dn : Bool} (h : Went w F M ps ps' c lim arm dn W) (hk : Kept S W W') (hS : ∀ k, S k → k ∉ foot F M ps' ∧ w.heap.size ≤ k) : Went w F M ps ps' c lim arm dn W' :=
  ⟨h.at_.kept hk fun k hm e => (hS k e).1 hm, h.kept.trans hk fun i hi e => by have := (hS i e).2; omega, h.feet⟩
theorem FilesAt.went0 {w : World} {F M : Nat} {ps : List PF} {c : Nat} {lim arm : Int} {dn : Bool} (h : FilesAt w F M ps c lim arm dn) : Went w F M ps ps c lim arm dn w := ⟨h, Kept.refl _ _, fun k hk => .inl hk⟩
/-- Frames, one behind the other. -/
def frsL : Nat → List (List UInt8) → List UInt8
  | _, [] => []
  | n, b :: r => frameB n b ++ frsL (n + 1) r
theorem frsL_snoc (n : Nat) (l : List (List UInt8)) (b : List UInt8) : frsL n (l ++ [b]) = frsL n l ++ frameB (n + l.length) b := by
  induction l generalizing n with
  | nil => simp [frsL]
  | cons x l ih =>
    simp only [List.cons_append, frsL, ih (n + 1), List.length_cons, List.append_assoc]
    rw [show n + 1 + l.length = n + (l.length + 1) by omega]
theorem frsL_len (n : Nat) (parts : List (List PV)) : (frsL n (parts.map bytesP)).length = frLen parts := by
  induction parts generalizing n with
  | nil => rfl
  | cons l parts ih =>
    have e : frLen (l :: parts) = (bytesP l).length + 16 + frLen parts := by simp [frLen]
    rw [List.map_cons, frsL, List.length_append, frameB_len, ih, e]
theorem fr_pre (parts : List (List PV)) (k : Nat) : frLen (parts.take k) ≤ frLen parts := by
  have e : frLen parts = frLen (parts.take k) + frLen (parts.drop k) := by
    unfold frLen
    rw [← List.sum_append, ← List.map_append, List.take_append_drop]
  omega
end Go.Proofs.YtcifhfdjigfeiaaGreatDoor
end
