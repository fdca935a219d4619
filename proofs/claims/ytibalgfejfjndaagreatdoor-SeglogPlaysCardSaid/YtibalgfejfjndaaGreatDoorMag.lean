import Derived.Test.YtibalgfejfjndaaGreatDoorMaf
import Derived.Test.YtibalgfejfjndaaGreatDoorMab
import Derived.BigFrameIn
import Derived.TacticsInMore
import Derived.Sort.QuietTacIn
import Derived.Sort.BigQuietIn
import Derived.Stop.RegionWithIn
import Derived.Test.YtibalgfejfjndaaGreatDoorMaa
import Derived.Laws.IdiomStrings
import Derived.Laws.BytesString
import Derived.Test.YtibalgfejfjndaaGreatDoorMac
/-! Package files: Crash. -/
section
set_option linter.unusedVariables false
set_option linter.unusedSimpArgs false
namespace Go.Proofs.YtibalgfejfjndaaGreatDoor
open Go.RowKit Go.Sort

def notDefer : Op → Bool
  | .defer _ => false
  | _ => true
theorem semAt_plain (ro : Option Nat) (ρ : Operand → Value) (o : Oper) (h : notDefer o.op = true) : Oper.semAt ro ρ o = execOp ρ o :=
  Oper.semAt_eq _ _ _ (fun c hc => by rw [hc] at h; cases h)
attribute [local go_sem] Oper.semAt_some
/-- A file has fallen: of what waits in it some first bytes stay. -/
structure Fell (p q : PF) : Prop where
  name : q.name = p.name
  born : q.born = p.born
  some_ : ∃ k, p.safe ≤ k ∧ k ≤ p.b.length ∧ q.b = p.b.take k ∧ q.safe = k
/-- The files while they fall: those whose names have been met have fallen. -/
def Falls (pre : List (List UInt8)) (p q : PF) : Prop := (p.name.data.toList ∉ pre → q = p) ∧ (p.name.data.toList ∈ pre → Fell p q)
def mkB (x : List UInt8) : ByteArray := ⟨x.toArray⟩
def All2 (R : PF → PF → Prop) (ps qs : List PF) : Prop := ps.length = qs.length ∧ ∀ (i : Nat) p q, ps[i]? = some p → qs[i]? = some q → R p q
theorem all2_set {pre : List (List UInt8)} {ps qs : List PF} {i : Nat} {p p' : PF} (h : All2 (Falls pre) ps qs) (hnd : (ps.map PF.name).Nodup) (hp : ps[i]? = some p) (hf : Fell p p') :
    All2 (Falls (pre ++ [p.name.data.toList])) ps (qs.set i p') := by
  have hi : i < ps.length := (List.getElem?_eq_some_iff.1 hp).1
  refine ⟨by simpa using h.1, fun j a b ha hb => ?_⟩
  rw [List.getElem?_set] at hb
  by_cases hij : i = j
  · subst hij
    rw [hp] at ha
    injection ha with ha
    subst ha
    rw [if_pos rfl, if_pos (by have := h.1; omega)] at hb
    injection hb with hb
    subst hb
    exact ⟨fun hno => absurd (by simp) hno, fun _ => hf⟩
  · rw [if_neg hij] at hb
    have hr := h.2 j a b ha hb
    have hne : a.name.data.toList ≠ p.name.data.toList := by
      intro e
      have e2 : a.name = p.name := by
        cases ha' : a.name; cases hp' : p.name
        rw [ha', hp'] at e
        simp only at e
        congr 1
        exact Array.toList_inj.1 e
      have hj : j < ps.length := (List.getElem?_eq_some_iff.1 ha).1
      have h1 : (ps.map PF.name)[i]? = some p.name := by simp [hp]
      have h2 : (ps.map PF.name)[j]? = some p.name := by simp [ha, e2]
      have := (List.getElem?_inj (by simpa using hi) hnd).1 (h1.trans h2.symm)
      exact hij this
    refine ⟨fun hno => hr.1 fun hm => hno (List.mem_append.2 (.inl hm)), fun hm => hr.2 ?_⟩
    rcases List.mem_append.1 hm with hm | hm
    · exact hm
    · exact absurd (by simpa using hm) hne
theorem all2_start (ps : List PF) : All2 (Falls []) ps ps := ⟨rfl, fun i p q hp hq => ⟨fun _ => by rw [hp] at hq; injection hq with hq; exact hq.symm, fun h => by simp at h⟩⟩
structure Mid (w W : World) (F M B0 B1 B2 D : Nat) (ps qs : List PF) (clock : Nat) (lim arm : Int) (pre : List (List UInt8)) (kp : Value) : Prop where
  at_ : FilesAt W F M qs clock lim arm true
  falls : All2 (Falls pre) ps qs
  b0 : Boxed W B0 24 (.pointer (some ⟨F, 0, none⟩))
  b1 : Boxed W B1 38 kp
  b2 : ∃ i : Nat, i ≤ pre.length ∧ Boxed W B2 3 (.int .i64 i)
  kept : Kept (fun k => k ∈ foot F M ps) w W
  feet : ∀ k ∈ foot F M qs, k ∈ foot F M ps ∨ D + 2 ≤ k
theorem Mid.carry {w W W' : World} {F M B0 B1 B2 D : Nat} {ps qs : List PF} {clock : Nat} {lim arm : Int} {pre : List (List UInt8)} {kp : Value} (h : Mid w W F M B0 B1 B2 D ps qs clock lim arm pre kp)
    (hk : Kept (fun k => False ∨ k = D ∨ k = D + 1) W W') (hf : ∀ k ∈ foot F M ps, k < w.heap.size) (hw : w.heap.size ≤ D) (h0 : B0 < D) (h1 : B1 < D) (h2 : B2 < D) : Mid w W' F M B0 B1 B2 D ps qs clock lim arm pre kp := by
  have no : ∀ k, k < D → ¬ (False ∨ k = D ∨ k = D + 1) := by rintro k hk (h | h | h) <;> first | exact h.elim | omega
  refine ⟨h.at_.kept hk fun k hm => ?_, h.falls, hk.heap h.b0 (no _ h0), hk.heap h.b1 (no _ h1), ?_, h.kept.trans hk fun i hi hm => ?_, h.feet⟩
  · rcases h.feet k hm with hm | hm
    · exact no k (by have := hf k hm; omega)
    · rintro (h | h | h) <;> first | exact h.elim | omega
  · obtain ⟨i, hi, hb⟩ := h.b2
    exact ⟨i, hi, hk.heap hb (no _ h2)⟩
  · exact absurd hm (no i (by omega))
/-- The file whose turn it is. -/
theorem turn {pre post : List (List UInt8)} {x : List UInt8} {ps qs : List PF} (hxs : sortN ps = pre ++ x :: post) (hnd : (ps.map PF.name).Nodup) (h : All2 (Falls pre) ps qs) :
    ∃ i p l1 l2, ps[i]? = some p ∧ qs = l1 ++ p :: l2 ∧ l1.length = i ∧ p.name.data.toList = x ∧ (⟨x.toArray⟩ : ByteArray) = p.name := by
  have hmem : x ∈ namesL ps := (sortN_perm ps).mem_iff.1 (by rw [hxs]; simp)
  obtain ⟨p, hp, rfl⟩ := List.mem_map.1 hmem
  obtain ⟨i, hi⟩ := List.getElem?_of_mem hp
  have hndN : (namesL ps).Nodup := by
    unfold namesL
    rw [show (ps.map fun p => p.name.data.toList) = (ps.map PF.name).map fun s => s.data.toList by rw [List.map_map]; rfl]
    refine List.Pairwise.map _ (fun a b hab e => hab ?_) hnd
    cases a; cases b
    simp only at e
    congr 1
    exact Array.toList_inj.1 e
  have hnd2 : (sortN ps).Nodup := (sortN_perm ps).nodup_iff.2 hndN
  have hno : p.name.data.toList ∉ pre := by
    rw [hxs, List.nodup_append] at hnd2
    exact fun hm => hnd2.2.2 _ hm _ (List.mem_cons_self ..) rfl
  have hil : i < qs.length := by rw [← h.1]; exact (List.getElem?_eq_some_iff.1 hi).1
  have hq : qs[i]? = some p := by
    have h1 := List.getElem?_eq_getElem hil
    rw [h1, (h.2 i p _ hi h1).1 hno]
  refine ⟨i, p, qs.take i, qs.drop (i + 1), hi, ?_, by rw [List.length_take]; omega, rfl, ?_⟩
  · have := List.getElem_cons_drop hil
    rw [(List.getElem?_eq_some_iff.1 hq).2] at this
    rw [this, List.take_append_drop]
  · cases p.name; simp
/-- A round's end. -/
theorem round_step {w W W' : World} {F M b D i : Nat} {ps l1 l2 : List PF} {p p' : PF} {clock : Nat} {lim arm : Int} {pre : List (List UInt8)} {kp : Value} {rd : Nat → Prop}
    (hM : Mid w W F M b (b + 1) (b + 1 + 1) D ps (l1 ++ p :: l2) clock lim arm pre kp) (hb : b = w.heap.size) (hD : b + 3 ≤ D) (hlt : ∀ k ∈ foot F M ps, k < w.heap.size) (hi : ps[i]? = some p) (hli : l1.length = i) (hnd : (ps.map PF.name).Nodup)
    (hf : Fell p p') (h2 : FilesAt W' F M (l1 ++ p' :: l2) clock lim arm true) (hk : Kept (fun k => k ∈ p.blocks ∨ k = b + 1 + 1) W W') (hfe : ∀ k ∈ p'.blocks, k ∈ p.blocks ∨ W.heap.size ≤ k) (hsz : D + 2 ≤ W.heap.size)
    (hb2 : ∃ j : Nat, j ≤ pre.length + 1 ∧ Boxed W' (b + 1 + 1) 3 (.int .i64 j)) (hrd : ∀ k, rd k → b + 3 ≤ k ∧ k < D) :
    (W.heap.size ≤ W'.heap.size ∧ ∀ k, (rd k ∨ k = D ∨ k = D + 1) → W'.heap[k]? = W.heap[k]?) ∧ ∃ qs, Mid w W' F M b (b + 1) (b + 1 + 1) D ps qs clock lim arm (pre ++ [p.name.data.toList]) kp := by
  have hpf : ∀ k ∈ p.blocks, k < b ∨ D + 2 ≤ k := fun k hk => (hM.feet k (mem_foot (p := p) (by simp) hk)).imp (fun h => by have := hlt k h; omega) id
  have no : ∀ k, b ≤ k → k < D + 2 → k ≠ b + 1 + 1 → ¬ (k ∈ p.blocks ∨ k = b + 1 + 1) := fun k h1 h2 h3 h => h.elim (fun h => by have := hpf k h; omega) h3
  refine ⟨⟨hk.size, fun k h => ?_⟩, l1 ++ p' :: l2, h2, ?_, hk.heap hM.b0 (no _ (Nat.le_refl _) (by omega) (by omega)), hk.heap hM.b1 (no _ (by omega) (by omega) (by omega)), ?_, ?_, ?_⟩
  · rcases h with h | h | h
    · have := hrd k h
      exact hk.block k (by omega) (no k (by omega) (by omega) (by omega))
    · subst h; exact hk.block _ (by omega) (no _ (by omega) (by omega) (by omega))
    · subst h; exact hk.block _ (by omega) (no _ (by omega) (by omega) (by omega))
  · have := all2_set hM.falls hnd hi hf
    rwa [show (l1 ++ p :: l2).set i p' = l1 ++ p' :: l2 by rw [← hli]; simp] at this
  · obtain ⟨j, hj, hb⟩ := hb2
    exact ⟨j, by simpa using hj, hb⟩
  · refine hM.kept.trans hk fun k hkw h => ?_
    rcases h with h | h
    · exact (hM.feet k (mem_foot (p := p) (by simp) h)).resolve_right (by omega)
    · omega
  · intro k hm
    have : k ∈ foot F M (l1 ++ p :: l2) ∨ k ∈ p'.blocks := by
      simp only [foot, List.flatMap_append, List.flatMap_cons, List.mem_cons, List.mem_append] at hm ⊢
      rcases hm with hm | hm | hm | hm | hm <;> simp [hm]
    rcases this with h | h
    · exact hM.feet k h
    · rcases hfe k h with h | h
      · exact hM.feet k (mem_foot (p := p) (by simp) h)
      · exact .inr (by omega)
theorem fall_at {W W3 : World} {p : PF} {b2 s : Nat} {x : Value} (h : p.At W) (hb : b2 ∉ p.blocks) (hs : s ≤ p.b.length) (hW : W3 = (W.setCell ⟨b2, 0, none⟩ x).setCell ⟨p.blk, 1, none⟩ (.int .i64 s)) : ({ p with safe := s } : PF).At W3 := by
  have h1 : p.At (W.setCell ⟨b2, 0, none⟩ x) := h.kept (kF W b2 0 x) fun k hk e => hb (by rw [← e]; exact hk)
  rw [hW]
  exact h1.safeTo hs
theorem fall_end {W W3 W4 : World} {F M b2 s iv : Nat} {l1 l2 : List PF} {p : PF} {clock : Nat} {lim arm : Int} {v : Value} (h : FilesAt W F M (l1 ++ p :: l2) clock lim arm true) (hb : b2 ∉ foot F M (l1 ++ p :: l2)) (hs : s ≤ p.b.length)
    (hB2 : Boxed W b2 3 (.int .i64 iv)) (hW : W3 = (W.setCell ⟨b2, 0, none⟩ (.int .i64 ((iv : Int) + 1))).setCell ⟨p.blk, 1, none⟩ (.int .i64 s)) (hk4 : Kept (fun _ => False) W3 W4)
    (hown : W4.ownsRow W3.heap.size 5 1 v (p.b.take s).length ((p.b.take s).map bv)) :
    FilesAt (W4.setCell ⟨p.blk, 0, none⟩ v) F M (l1 ++ { p with b := p.b.take s, safe := s, val := v } :: l2) clock lim arm true ∧ Kept (fun k => k ∈ p.blocks ∨ k = b2) W (W4.setCell ⟨p.blk, 0, none⟩ v) ∧
    (∀ k ∈ PF.blocks { p with b := p.b.take s, safe := s, val := v }, k ∈ p.blocks ∨ W.heap.size ≤ k) ∧ Boxed (W4.setCell ⟨p.blk, 0, none⟩ v) b2 3 (.int .i64 ((iv : Int) + 1)) := by
  have hbp : b2 ∉ p.blocks := fun hk => hb (mem_foot (p := p) (by simp) hk)
  have hbb : b2 ≠ p.blk := fun e => hbp (by rw [e]; exact List.mem_cons_self ..)
  have hpl := (h.at_ p (by simp)).len
  have hlt : (p.b.take s).length = s := by rw [List.length_take]; omega
  have h3 := fall_at (h.at_ p (by simp)) hbp hs hW
  have h4 : W4.heap[p.blk]? = some (.cells #[p.val, .int .i64 s] 89 (0, 0)) := hk4.heap h3.cell (by simp)
  have hka : Kept (fun k => k = b2) W (W.setCell ⟨b2, 0, none⟩ (.int .i64 ((iv : Int) + 1))) := kF W b2 0 _
  have ha : FilesAt (W.setCell ⟨b2, 0, none⟩ (.int .i64 ((iv : Int) + 1))) F M (l1 ++ p :: l2) clock lim arm true := h.kept hka fun k hk e => hb (by rw [← e]; exact hk)
  have hk3 : Kept (fun k => k = p.blk) (W.setCell ⟨b2, 0, none⟩ (.int .i64 ((iv : Int) + 1))) W3 := by rw [hW]; exact kF _ p.blk 1 _
  have hk5 : Kept (fun k => k = p.blk) (W.setCell ⟨b2, 0, none⟩ (.int .i64 ((iv : Int) + 1))) (W4.setCell ⟨p.blk, 0, none⟩ v) := (hk3.trans' (hk4.mono fun _ _ h => h.elim)).trans' (kF W4 p.blk 0 v)
  have hs3 : W.heap.size ≤ W3.heap.size := by have := hka.size; have := hk3.size; omega
  have hob : ∀ k, v.ownBlock = some k → W3.heap.size ≤ k := by
    intro k hk
    rcases hown.2 with ⟨hv, _⟩ | ⟨g, cap, cur, hv, hbs, _⟩
    · rw [hv] at hk; cases hk
    · rw [hv] at hk
      have : g = k := by simpa [Value.ownBlock] using hk
      omega
  refine ⟨ha.replace (q := { p with b := p.b.take s, safe := s, val := v }) (hk5.mono fun k _ e => by rw [e]; exact List.mem_cons_self ..) (At.store0 h4 (own_base hown) (by rw [hlt]; exact Nat.le_refl _) (by rw [hlt]; omega)) rfl rfl rfl (fun k hk => .inr (by have := hob k hk; have := hk3.size; omega)), ?_, ?_, ?_⟩
  · exact (hka.mono fun k _ e => .inr e).trans' (hk5.mono fun k _ e => .inl (by rw [e]; exact List.mem_cons_self ..))
  · intro k hk
    rcases List.mem_cons.1 hk with hk | hk
    · exact .inl (by rw [hk]; exact List.mem_cons_self ..)
    · exact .inr (by have := hob k (by simpa using hk); omega)
  · exact hk5.heap (hB2.set (.int .i64 ((iv : Int) + 1))) hbb
set_option maxRecDepth 100000 in
set_option maxHeartbeats 4000000 in
theorem crash_any (w : World) (F M : Nat) (ps : List PF) (clock : Nat) (lim arm : Int) (dn : Bool) (A : Option Addr) (n c : Nat) (h : FilesAt w F M ps clock lim arm dn) (hn : ps.length ≤ 1000000) (hm : ∀ p ∈ ps, p.name.size ≤ 1000000) (hks : Hid (∀ j, j < n → ∃ ad z, A = some ad ∧ ad.block ∉ foot F M ps ∧ w.cell? (ad.add j) = some (.int .i64 z))) :
    Calls Tryz.prog 20 #[.pointer (some ⟨F, 0, none⟩), .slice A n c] w fun e w' => e = .returned (.tuple #[]) ∧ ∃ qs, Went w F M ps qs clock lim arm true w' ∧ All2 Fell ps qs := by
  refine calls_of_marks Tryz.func20 rfl ?_
  simp only [Tryz.ntmps20, List.size_toArray, List.length_cons, List.length_nil, Nat.reduceAdd, Nat.reduceSub, Array.replicate_succ, Array.replicate_zero, List.push_toArray, List.append_toArray, List.nil_append, List.cons_append]
  have HF := Lib.hid h
  obtain ⟨W0, hW0⟩ : ∃ W0, W0 = (w.alloc (.cells #[.pointer (some ⟨F, 0, none⟩)] 24)).alloc (.cells #[.slice A n c] 38) := ⟨_, rfl⟩
  have hk0 : Kept (fun _ => False) w W0 := by rw [hW0]; exact ((Kept.refl _ w).alloc _).alloc _
  have hfb0 : FB W0 F M lim arm dn := (h.kept hk0 (by simp)).fb
  have f3 := hfb0.fz 3
  have c3 := hfb0.c3
  obtain ⟨W1, hW1⟩ : ∃ W1, W1 = (W0.setCell ⟨F, 3, none⟩ (.bool true)).alloc (.cells #[.int .i64 0] 3) := ⟨_, rfl⟩
  have hk1 : Kept (fun k => k = F) w W1 := by rw [hW1]; exact (((hk0.mono fun _ _ h => h.elim).trans' (kF W0 F 3 _)).alloc _)
  have hF1 : FilesAt W1 F M ps clock lim arm true := h.own hk1 (by
    have hs := hfb0.s3 true
    have hk : Kept (fun _ => False) (W0.setCell ⟨F, 3, none⟩ (.bool true)) W1 := by rw [hW1]; exact (Kept.refl _ _).alloc _
    exact hk.heap hs (by simp)) h.lim0 h.arm0
  have HF1 := Lib.hid hF1
  have HK1 := Lib.hid hk1
  have HL := Lib.hid (list_any W1 F M ps clock lim arm true hF1 hn hm)
  rw [hW0] at f3 c3
  clear hF1 hk1 hk0 hfb0 h
  have hb0 : Boxed W1 w.heap.size 24 (.pointer (some ⟨F, 0, none⟩)) := by
    have hFs : F < w.heap.size := HF.out.lt F (by simp [foot])
    have e0 : Boxed W0 w.heap.size 24 (.pointer (some ⟨F, 0, none⟩)) := by rw [hW0]; exact (Boxed.new w 24 _).alloc _
    have e1 : Boxed (W0.setCell ⟨F, 3, none⟩ (.bool true)) w.heap.size 24 (.pointer (some ⟨F, 0, none⟩)) := (kF W0 F 3 _).heap e0 (by omega)
    rw [hW1]; exact e1.alloc _
  have hb1 : Boxed W1 (w.heap.size + 1) 38 (.slice A n c) := by
    have hFs : F < w.heap.size := HF.out.lt F (by simp [foot])
    have e0 : Boxed W0 (w.heap.size + 1) 38 (.slice A n c) := by
      have := Boxed.new (w.alloc (.cells #[.pointer (some ⟨F, 0, none⟩)] 24)) 38 (.slice A n c)
      rw [hW0]; simpa using this
    have e1 : Boxed (W0.setCell ⟨F, 3, none⟩ (.bool true)) (w.heap.size + 1) 38 (.slice A n c) := (kF W0 F 3 _).heap e0 (by omega)
    rw [hW1]; exact e1.alloc _
  have hs1 : W1.heap.size = w.heap.size + 3 := by rw [hW1, hW0]; simp [World.setCell]
  have hb2 : Boxed W1 (w.heap.size + 1 + 1) 3 (.int .i64 0) := by
    have := Boxed.new (W0.setCell ⟨F, 3, none⟩ (.bool true)) 3 (.int .i64 0)
    rw [hW1]
    rwa [show (W0.setCell ⟨F, 3, none⟩ (.bool true)).heap.size = w.heap.size + 1 + 1 by rw [hW0]; simp [World.setCell]] at this
  have HB0 := Lib.hid hb0
  have HB1 := Lib.hid hb1
  have HB2 := Lib.hid hb2
  have Hs1 := Lib.hid hs1
  clear hb0 hb1 hb2 hs1
  go_wp2_with (first | (go_at_call 35; rw [← hW0, ← hW1]; refine HL.out.mono ?_; rintro e w2 ⟨B, A2, c2, rfl, hb, hs, hA, hB, hk⟩))
  clear hW0 hW1 f3 c3
  have hlen : (sortN ps).length = ps.length := by rw [(sortN_perm ps).length_eq]; simp [namesL]
  have hit := values_iter B (sortN ps).length c2 A2 (sortN ps) w2 hb rfl (by rw [hlen]; exact hn) hs (fun ad e => (hA ad e).2)
  have hD : W1.heap.size ≤ w2.heap.size := hk.size
  have hs1 := Hs1.out
  have hlt := HF.out.lt
  refine wp_range (gf := 78) rfl (enters_of Tryz.func78 (by kernel_rfl) rfl) hit (fun _ => rfl) (fun k h => h.elim) (fun k ⟨ad, e, e2⟩ => by rw [← e2]; exact (hA ad e).2)
    (fun pre W => ∃ qs, Mid w W F M w.heap.size (w.heap.size + 1) (w.heap.size + 1 + 1) w2.heap.size ps qs clock lim arm pre (.slice A n c))
    (fun c pre W => False)
    (fun pre A C h hk => h.imp fun qs h => h.carry hk hlt (by omega) (by omega) (by omega) (by omega))
    (fun c pre A C h hk => h.elim)
    ⟨ps, HF1.out.kept hk (by simp), all2_start ps, hk.heap HB0.out (by simp), hk.heap HB1.out (by simp), ⟨0, Nat.le_refl _, hk.heap HB2.out (by simp)⟩, HK1.out.ofF.trans' (hk.mono fun _ _ h => h.elim), fun k h => .inl h⟩
    (fun x => { tmps := #[.pointer (some ⟨F, 0, none⟩), .slice A n c, .pointer (some ⟨w.heap.size, 0, none⟩), .pointer (some ⟨w.heap.size + 1, 0, none⟩), .pointer (some ⟨w.heap.size + 1 + 1, 0, none⟩), .string ⟨x.toArray⟩, undef, undef, .pointer (some ⟨F, 0, none⟩), .bool false, .pointer (some ⟨F, 0, none⟩), .pointer (some ⟨F, 0, none⟩), .pointer (some ⟨F, 3, none⟩), .pointer (some ⟨F, 0, none⟩), .func (.func 78) #[] #[.pointer (some ⟨B, 0, none⟩)], .string ⟨x.toArray⟩, undef, undef, undef, undef, undef, undef, undef, undef, undef, undef, undef, undef, undef, undef, undef, undef, undef, undef, undef, undef, undef, undef, undef, undef, undef, undef, undef, undef, undef, undef, undef, undef, undef, undef, undef, undef, undef, undef, undef, undef, undef, undef, undef, undef, undef, undef, undef, undef, undef, undef, undef, undef, undef, undef, undef, undef, undef, undef, undef], defers := [] }) ?assign ?body ?done ?stop
  case assign =>
    intro l x W K hK
    gi_wp2
    exact hK
  case body =>
    rintro l pre x post W hxs ⟨qs, hmid⟩ hsz2
    obtain ⟨i, p, l1, l2, hi, rfl, hli, hpx, hpn⟩ := turn hxs HF.out.names hmid.falls
    rw [hpn]
    have HM := Lib.hid hmid
    have hlook := look_some hmid.at_.map (names_ne hmid.at_.names).1 false
    rw [if_neg (by decide)] at hlook
    have hb0 := hmid.b0.cell
    have hb1 := hmid.b1.cell
    obtain ⟨iv, hiv, hb2⟩ := hmid.b2
    have hb2c := hb2.cell
    have hb2f := hb2.frozen
    have h0 := FB.c0 hmid.at_.fb
    have hp := hmid.at_.at_ p (by simp)
    obtain ⟨A0, c0, hv, hlen0, hbs, hA0, _⟩ := Bs.of_own hp.own
    have hc0 := hp.c0
    rw [hv] at hc0
    have hc1 := hp.c1
    have hf0 := hp.fz 0
    have hf1 := hp.fz 1
    have hps := hp.safe
    have hpl := hp.len
    have HP := Lib.hid hp
    have HB2 := Lib.hid hb2
    have Hpx := Lib.hid hpx
    have Hi := Lib.hid hi
    have Hli := Lib.hid hli
    have Hiv := Lib.hid hiv
    have HV := Lib.hid hv
    have HA0 := Lib.hid hA0
    have Hlt := Lib.hid hlt
    have HAd := Lib.hid hA
    have Hpl9 : Hid (pre.length ≤ 1000000) := Lib.hid (by have h := congrArg List.length hxs; rw [hlen, List.length_append] at h; omega)
    clear hmid hit hpx hi hli hiv hv hA0 hbs hb2 hxs hpn hp hlen hlt hA hb hs HL HF1 hm
    by_cases hfull : p.safe = p.b.length
    · have hq9 : (p.safe : Int) = (p.b.length : Int) := by omega
      gi_wp2
      refine wpIn_still_drew 9 (by kernel_rfl) (by kernel_rfl) (by kernel_rfl) (fun ⟨_, _, h⟩ => h) ?_
      simp only [List.take_succ_cons, List.take_zero, List.drop_succ_cons, List.drop_zero]
      repeat still_step
      refine wpStill_nil ?_
      go_wp2
      gi_wp2
      have hrd : ∀ k, rdOf A2 k → w.heap.size + 3 ≤ k ∧ k < w2.heap.size := fun k ⟨ad, e, e2⟩ => by have := HAd.out ad e; omega
      have := round_step (rd := rdOf A2) (W' := W.drew) HM.out rfl (by omega) Hlt.out Hi.out Hli.out HF.out.names (p' := p) ⟨rfl, rfl, p.safe, Nat.le_refl _, hps, by rw [hfull]; simp, rfl⟩ (HM.out.at_.kept (Kept.refl (fun _ => False) W).drew (by simp)) (((Kept.refl (fun _ => False) W).drew).mono fun _ _ h => h.elim) (fun k h => .inl h) hsz2 ⟨iv, by have := Hiv.out; omega, ((Kept.refl (fun _ => False) W).drew).heap HB2.out (by simp)⟩ hrd
      rw [Hpx.out] at this
      exact this
    · have hq9 : ¬ (p.safe : Int) = (p.b.length : Int) := by omega
      have hqb : ((p.safe : Int) == (p.b.length : Int)) = false := by simp; omega
      by_cases hkeep : iv < n
      · skip
        obtain ⟨ad, z, rfl, hnf, hz⟩ := hks.out iv hkeep
        have hzW := HM.out.kept.cell hz (by rw [add_block]; exact hnf)
        have hk9 : (iv : Int) < (n : Int) := by omega
        have hiv9 : (iv : Int) ≤ 1000000 := by have := Hiv.out; have := Hpl9.out; omega
        have hls : (0 : Int) < (p.b.length : Int) - (p.safe : Int) := by omega
        clear hz hnf
        · skip
          gi_wp2
          refine wpIn_still_drew 9 (by kernel_rfl) (by kernel_rfl) (by kernel_rfl) (fun ⟨_, _, h⟩ => h) ?_
          simp only [List.take_succ_cons, List.take_zero, List.drop_succ_cons, List.drop_zero]
          repeat still_step
          refine wpStill_nil ?_
          go_wp2
          gi_wp2
          refine wpIn_still_drew 16 (by kernel_rfl) (by kernel_rfl) (by kernel_rfl) (fun ⟨_, _, h⟩ => h) ?_
          simp only [List.take_succ_cons, List.take_zero, List.drop_succ_cons, List.drop_zero]
          repeat still_step
          refine wpStill_nil ?_
          go_wp2
          gi_wp2
          obtain ⟨m, hm⟩ : ∃ m : Nat, m = (max 0 (min z ((p.b.length : Int) - (p.safe : Int)))).toNat := ⟨_, rfl⟩
          have hmI : (max 0 (min z ((p.b.length : Int) - (p.safe : Int)))) = (m : Int) := by omega
          have hsm : p.safe + m ≤ p.b.length := by omega
          rw [hmI]
          clear hm hmI
          have hb2p : w.heap.size + 1 + 1 ∉ foot F M (l1 ++ p :: l2) := fun hm => by rcases HM.out.feet _ hm with h' | h'; have := Hlt.out _ h'; omega; omega
          have HB2p := Lib.hid hb2p
          obtain ⟨W3, hW3⟩ : ∃ W3, W3 = (W.setCell ⟨w.heap.size + 1 + 1, 0, none⟩ (.int .i64 ((iv : Int) + 1))).setCell ⟨p.blk, 1, none⟩ (.int .i64 ((p.safe : Int) + (m : Int))) := ⟨_, rfl⟩
          rw [← hW3]
          have hA3 := fall_at (s := p.safe + m) HP.out (fun hk => hb2p (mem_foot (p := p) (by simp) hk)) hsm hW3
          have HW3 := Lib.hid hW3
          clear hb2p hW3 hc0 hc1 hf0 hf1 hb0 hb1 hb2c hb2f h0 hlook
          have hc0 : W3.cell? ⟨p.blk, 0, none⟩ = some (.slice A0 p.b.length c0) := by have := hA3.c0; simp only at this; rwa [HV.out] at this
          have hc1 : W3.cell? ⟨p.blk, 1, none⟩ = some (.int .i64 ((p.safe : Int) + (m : Int))) := hA3.c1
          have hown0 := HP.out.own
          rw [HV.out] at hown0
          obtain ⟨hcap, hA00⟩ := own_cap hown0
          have hsl : ∀ W, (Instr.slice 30 (.slice A0 p.b.length c0) none (some (.int .i64 ((p.safe : Int) + (m : Int)))) none).run Tryz.prog W = .ok (.slice A0 (p.safe + m) c0) W := fun W => slice_run W A0 p.b.length (p.safe + m) c0 hA00 (by omega)
          have HA3 := Lib.hid hA3
          have HC : Hid (Calls Tryz.prog 39 #[.slice A0 (p.safe + m) c0] W3.drew.drew.drew (ClonePost W3.drew.drew.drew (p.b.take (p.safe + m)))) := Lib.hid (by
            have hat : PF.At W3.drew.drew.drew { p with safe := p.safe + m } := HA3.out.kept ((((Kept.refl (fun _ => False) W3).drew).drew).drew) (by simp)
            obtain ⟨A', c', hv', _, hbs', hA', _⟩ := Bs.of_own hat.own
            have hv2 : p.val = .slice A' p.b.length c' := hv'
            rw [HV.out] at hv2
            injection hv2 with e1 _ e3
            subst e1; subst e3
            refine clone_any _ A0 (p.safe + m) c0 _ (by simp; omega) (by omega) ⟨fun e => ?_, fun ad e j u hu => hbs'.2 ad e j u ?_⟩ hA'
            · have h1 : p.b = [] := hbs'.1 e
              simp [h1]
            · rw [List.map_take, List.getElem?_take] at hu
              split at hu
              · exact hu
              · cases hu)
          clear hA3 hown0 hcap hA00
          refine wpIn_region_calls (f := 39) (by kernel_rfl) (by kernel_rfl) (enters_of Tryz.func39 (by kernel_rfl) rfl) (fun ⟨_, _, h⟩ => h) ?_
          refine wpAny_take (i := 0) (v := ?_) rfl (by kernel_rfl) (by kernel_rfl) (by kernel_rfl) (fun _ _ _ h => h) (Or.inl ⟨by rfl, ?_⟩) ?_
          rotate_left
          · (intro w; go_simp; try with_reducible rfl)
          refine wpAny_take (i := 1) (v := ?_) rfl (by kernel_rfl) (by kernel_rfl) (by kernel_rfl) (fun _ _ _ h => h) (Or.inl ⟨by rfl, ?_⟩) ?_
          rotate_left
          · (intro w; go_simp; try with_reducible rfl)
          refine wpAny_take (i := 5) (v := ?_) rfl (by kernel_rfl) (by kernel_rfl) (by kernel_rfl) (fun _ _ _ h => h) (Or.inl ⟨by rfl, ?_⟩) ?_
          rotate_left
          · (intro w; go_simp; try with_reducible rfl)
          refine wpAny_take (i := 2) (v := ?_) rfl (by kernel_rfl) (by kernel_rfl) (by kernel_rfl) (fun _ _ _ h => h) (Or.inl ⟨by rfl, ?_⟩) ?_
          rotate_left
          · (intro w; go_simp; try with_reducible rfl)
          refine wpAny_take (i := 3) (v := ?_) rfl (by kernel_rfl) (by kernel_rfl) (by kernel_rfl) (fun _ _ _ h => h) (Or.inl ⟨by rfl, ?_⟩) ?_
          rotate_left
          · (intro w; go_simp; try with_reducible rfl)
          refine wpAny_take (i := 6) (v := ?_) rfl (by kernel_rfl) (by kernel_rfl) (by kernel_rfl) (fun _ _ _ h => h) (Or.inl ⟨by rfl, ?_⟩) ?_
          rotate_left
          · (intro w; go_simp; try with_reducible rfl)
          refine wpAny_take (i := 7) (v := ?_) rfl (by kernel_rfl) (by kernel_rfl) (by kernel_rfl) (fun _ _ _ h => h) (Or.inl ⟨by rfl, ?_⟩) ?_
          rotate_left
          · (intro w; go_simp; try with_reducible rfl)
          refine wpAny_ready (rs := [4, 8]) (by kernel_rfl) (by simp) ?_
          refine AllReady.cons rfl (fun K hK => ?_) (AllReady.cons rfl (fun K hK => ?_) AllReady.nil)
          all_goals go_simp
          all_goals (refine hK _ _ ?_; clear hK K)
          focus
            refine wpAny_ready (rs := [8]) (by kernel_rfl) (by simp) ?_
            refine AllReady.cons rfl (fun K hK => ?_) AllReady.nil
            go_simp
            refine hK _ _ ?_
            clear hK K
            refine wpAny_ready (rs := [9]) (by kernel_rfl) (by simp) ?_
          rotate_left
          focus
            refine wpAny_ready (rs := [4]) (by kernel_rfl) (by simp) ?_
            refine AllReady.cons rfl (fun K hK => ?_) AllReady.nil
            go_simp
            refine hK _ _ ?_
            clear hK K
            refine wpAny_ready (rs := [9]) (by kernel_rfl) (by simp) ?_
          all_goals refine AllReady.cons rfl (fun K hK => ?_) AllReady.nil
          all_goals go_simp
          all_goals (refine hK _ _ ?_; clear hK K)
          all_goals refine wpAny_ready (rs := [10]) (by kernel_rfl) (by simp) ?_
          all_goals refine AllReady.cons rfl (fun K hK => ?_) AllReady.nil
          all_goals try go_simp
          all_goals refine HC.out.mono ?_
          all_goals rintro e W4 ⟨v, rfl, hown, hk4⟩
          all_goals obtain ⟨A4, c4, rfl, _⟩ := Bs.of_own hown
          all_goals
            have hk34 : Kept (fun _ => False) W3 W4 := ((((Kept.refl (fun _ => False) W3).drew).drew).drew).trans' hk4
            have hE := fall_end (s := p.safe + m) HM.out.at_ HB2p.out hsm HB2.out HW3.out hk34 hown
            rw [List.length_take, Nat.min_eq_left hsm] at hE
            have HE := Lib.hid hE
            have g0 : W4.cell? ⟨p.blk, 0, none⟩ = some (.slice A0 p.b.length c0) := hk34.cell hc0 (by simp)
            have gf0 : W4.frozen? ⟨p.blk, 0, none⟩ = false := by have h4 := hk34.heap HA3.out.cell (by simp); simp only at h4; simp [World.frozen?, h4]
            clear hE hown hk4 hk34
          all_goals (refine hK _ _ ?_; clear hK K)
          all_goals refine wpAny_ready (rs := [11]) (by kernel_rfl) (by simp) ?_
          all_goals refine AllReady.cons rfl (fun K hK => ?_) AllReady.nil
          all_goals go_simp
          all_goals (refine hK _ _ ?_; clear hK K)
          all_goals refine wpAny_ready (rs := [12]) (by kernel_rfl) (by simp) ?_
          all_goals refine AllReady.cons rfl (fun K hK => ?_) AllReady.nil
          all_goals go_simp
          all_goals (refine hK _ _ ?_; clear hK K)
          all_goals refine wpAny_ready (rs := [13]) (by kernel_rfl) (by simp) ?_
          all_goals refine AllReady.cons rfl (fun K hK => ?_) AllReady.nil
          all_goals go_simp
          all_goals (refine hK _ _ ?_; clear hK K)
          all_goals refine wpAny_done (by kernel_rfl) ?_ _
          all_goals
            have hrd : ∀ k, rdOf A2 k → w.heap.size + 3 ≤ k ∧ k < w2.heap.size := fun k ⟨ad, e, e2⟩ => by have := HAd.out ad e; omega
            have hb := HE.out.2.2.2
            rw [show ((iv : Int) + 1) = ((iv + 1 : Nat) : Int) by omega] at hb
            have := round_step (rd := rdOf A2) (p' := { p with b := p.b.take (p.safe + m), safe := p.safe + m, val := .slice A4 (p.safe + m) c4 }) HM.out rfl (by omega) Hlt.out Hi.out Hli.out HF.out.names ⟨rfl, rfl, p.safe + m, by omega, hsm, rfl, rfl⟩ HE.out.1 HE.out.2.1 HE.out.2.2.1 hsz2 ⟨iv + 1, by have := Hiv.out; omega, hb⟩ hrd
            rw [Hpx.out] at this
            exact this
      · have hk9 : ¬ (iv : Int) < (n : Int) := by omega
        have hiv9 : (iv : Int) ≤ 1000000 := by have := Hiv.out; have := Hpl9.out; omega
        gi_wp2
        refine wpIn_still_drew 9 (by kernel_rfl) (by kernel_rfl) (by kernel_rfl) (fun ⟨_, _, h⟩ => h) ?_
        simp only [List.take_succ_cons, List.take_zero, List.drop_succ_cons, List.drop_zero]
        repeat still_step
        refine wpStill_nil ?_
        go_wp2
        gi_wp2
        have hb2p : w.heap.size + 1 + 1 ∉ foot F M (l1 ++ p :: l2) := fun hm => by rcases HM.out.feet _ hm with h' | h'; have := Hlt.out _ h'; omega; omega
        have HB2p := Lib.hid hb2p
        obtain ⟨W3, hW3⟩ : ∃ W3, W3 = (W.setCell ⟨w.heap.size + 1 + 1, 0, none⟩ (.int .i64 ((iv : Int) + 1))).setCell ⟨p.blk, 1, none⟩ (.int .i64 p.safe) := ⟨_, rfl⟩
        rw [← hW3]
        have hA3 := fall_at HP.out (fun hk => hb2p (mem_foot (p := p) (by simp) hk)) hps hW3
        have HW3 := Lib.hid hW3
        clear hb2p hW3 hc0 hc1 hf0 hf1 hb0 hb1 hb2c hb2f h0 hlook
        have hc0 : W3.cell? ⟨p.blk, 0, none⟩ = some (.slice A0 p.b.length c0) := by have := hA3.c0; simp only at this; rwa [HV.out] at this
        have hc1 : W3.cell? ⟨p.blk, 1, none⟩ = some (.int .i64 p.safe) := hA3.c1
        have hown0 := HP.out.own
        rw [HV.out] at hown0
        obtain ⟨hcap, hA00⟩ := own_cap hown0
        have hsl := fun W => slice_run W A0 p.b.length p.safe c0 hA00 (by omega)
        have HA3 := Lib.hid hA3
        have HC : Hid (Calls Tryz.prog 39 #[.slice A0 p.safe c0] W3.drew.drew (ClonePost W3.drew.drew (p.b.take p.safe))) := Lib.hid (by
          have hat : PF.At W3.drew.drew { p with safe := p.safe } := HA3.out.kept (((Kept.refl (fun _ => False) W3).drew).drew) (by simp)
          obtain ⟨A', c', hv', _, hbs', hA', _⟩ := Bs.of_own hat.own
          have hv2 : p.val = .slice A' p.b.length c' := hv'
          rw [HV.out] at hv2
          injection hv2 with e1 _ e3
          subst e1; subst e3
          refine clone_any _ A0 p.safe c0 _ (by simp; omega) (by omega) ⟨fun e => ?_, fun ad e j u hu => hbs'.2 ad e j u ?_⟩ hA'
          · have h1 : p.b = [] := hbs'.1 e
            simp [h1]
          · rw [List.map_take, List.getElem?_take] at hu
            split at hu
            · exact hu
            · cases hu)
        clear hA3 hown0 hcap hA00
        refine wpIn_region_calls (f := 39) (by kernel_rfl) (by kernel_rfl) (enters_of Tryz.func39 (by kernel_rfl) rfl) (fun ⟨_, _, h⟩ => h) ?_
        refine wpAny_take (i := 0) (v := ?_) rfl (by kernel_rfl) (by kernel_rfl) (by kernel_rfl) (fun _ _ _ h => h) (Or.inl ⟨by rfl, ?_⟩) ?_
        rotate_left
        · (intro w; go_simp; try with_reducible rfl)
        refine wpAny_take (i := 1) (v := ?_) rfl (by kernel_rfl) (by kernel_rfl) (by kernel_rfl) (fun _ _ _ h => h) (Or.inl ⟨by rfl, ?_⟩) ?_
        rotate_left
        · (intro w; go_simp; try with_reducible rfl)
        refine wpAny_take (i := 5) (v := ?_) rfl (by kernel_rfl) (by kernel_rfl) (by kernel_rfl) (fun _ _ _ h => h) (Or.inl ⟨by rfl, ?_⟩) ?_
        rotate_left
        · (intro w; go_simp; try with_reducible rfl)
        refine wpAny_take (i := 2) (v := ?_) rfl (by kernel_rfl) (by kernel_rfl) (by kernel_rfl) (fun _ _ _ h => h) (Or.inl ⟨by rfl, ?_⟩) ?_
        rotate_left
        · (intro w; go_simp; try with_reducible rfl)
        refine wpAny_take (i := 3) (v := ?_) rfl (by kernel_rfl) (by kernel_rfl) (by kernel_rfl) (fun _ _ _ h => h) (Or.inl ⟨by rfl, ?_⟩) ?_
        rotate_left
        · (intro w; go_simp; try with_reducible rfl)
        refine wpAny_take (i := 6) (v := ?_) rfl (by kernel_rfl) (by kernel_rfl) (by kernel_rfl) (fun _ _ _ h => h) (Or.inl ⟨by rfl, ?_⟩) ?_
        rotate_left
        · (intro w; go_simp; try with_reducible rfl)
        refine wpAny_take (i := 7) (v := ?_) rfl (by kernel_rfl) (by kernel_rfl) (by kernel_rfl) (fun _ _ _ h => h) (Or.inl ⟨by rfl, ?_⟩) ?_
        rotate_left
        · (intro w; go_simp; try with_reducible rfl)
        refine wpAny_ready (rs := [4, 8]) (by kernel_rfl) (by simp) ?_
        refine AllReady.cons rfl (fun K hK => ?_) (AllReady.cons rfl (fun K hK => ?_) AllReady.nil)
        all_goals go_simp
        all_goals (refine hK _ _ ?_; clear hK K)
        focus
          refine wpAny_ready (rs := [8]) (by kernel_rfl) (by simp) ?_
          refine AllReady.cons rfl (fun K hK => ?_) AllReady.nil
          go_simp
          refine hK _ _ ?_
          clear hK K
          refine wpAny_ready (rs := [9]) (by kernel_rfl) (by simp) ?_
        rotate_left
        focus
          refine wpAny_ready (rs := [4]) (by kernel_rfl) (by simp) ?_
          refine AllReady.cons rfl (fun K hK => ?_) AllReady.nil
          go_simp
          refine hK _ _ ?_
          clear hK K
          refine wpAny_ready (rs := [9]) (by kernel_rfl) (by simp) ?_
        all_goals refine AllReady.cons rfl (fun K hK => ?_) AllReady.nil
        all_goals go_simp
        all_goals (refine hK _ _ ?_; clear hK K)
        all_goals refine wpAny_ready (rs := [10]) (by kernel_rfl) (by simp) ?_
        all_goals refine AllReady.cons rfl (fun K hK => ?_) AllReady.nil
        all_goals try go_simp
        all_goals refine HC.out.mono ?_
        all_goals rintro e W4 ⟨v, rfl, hown, hk4⟩
        all_goals obtain ⟨A4, c4, rfl, _⟩ := Bs.of_own hown
        all_goals
          have hk34 : Kept (fun _ => False) W3 W4 := (((Kept.refl (fun _ => False) W3).drew).drew).trans' hk4
          have hE := fall_end HM.out.at_ HB2p.out hps HB2.out HW3.out hk34 hown
          rw [List.length_take, Nat.min_eq_left hps] at hE
          have HE := Lib.hid hE
          have g0 : W4.cell? ⟨p.blk, 0, none⟩ = some (.slice A0 p.b.length c0) := hk34.cell hc0 (by simp)
          have gf0 : W4.frozen? ⟨p.blk, 0, none⟩ = false := by have h4 := hk34.heap HA3.out.cell (by simp); simp only at h4; simp [World.frozen?, h4]
          clear hE hown hk4 hk34
        all_goals (refine hK _ _ ?_; clear hK K)
        all_goals refine wpAny_ready (rs := [11]) (by kernel_rfl) (by simp) ?_
        all_goals refine AllReady.cons rfl (fun K hK => ?_) AllReady.nil
        all_goals go_simp
        all_goals (refine hK _ _ ?_; clear hK K)
        all_goals refine wpAny_ready (rs := [12]) (by kernel_rfl) (by simp) ?_
        all_goals refine AllReady.cons rfl (fun K hK => ?_) AllReady.nil
        all_goals go_simp
        all_goals (refine hK _ _ ?_; clear hK K)
        all_goals refine wpAny_ready (rs := [13]) (by kernel_rfl) (by simp) ?_
        all_goals refine AllReady.cons rfl (fun K hK => ?_) AllReady.nil
        all_goals go_simp
        all_goals (refine hK _ _ ?_; clear hK K)
        all_goals refine wpAny_done (by kernel_rfl) ?_ _
        all_goals
          have hrd : ∀ k, rdOf A2 k → w.heap.size + 3 ≤ k ∧ k < w2.heap.size := fun k ⟨ad, e, e2⟩ => by have := HAd.out ad e; omega
          have hb := HE.out.2.2.2
          rw [show ((iv : Int) + 1) = ((iv + 1 : Nat) : Int) by omega] at hb
          have := round_step (rd := rdOf A2) (p' := { p with b := p.b.take p.safe, safe := p.safe, val := .slice A4 p.safe c4 }) HM.out rfl (by omega) Hlt.out Hi.out Hli.out HF.out.names ⟨rfl, rfl, p.safe, Nat.le_refl _, hps, rfl, rfl⟩ HE.out.1 HE.out.2.1 HE.out.2.2.1 hsz2 ⟨iv + 1, by have := Hiv.out; omega, hb⟩ hrd
          rw [Hpx.out] at this
          exact this
  case done =>
    rintro W ⟨qs, hmid⟩ hD
    have HM := Lib.hid hmid
    have HD := Lib.hid hD
    clear hmid hD hit
    go_wp2
    refine leave_mark' HD.out (v := .tuple #[]) (results_none rfl _ _ _) ⟨rfl, qs, ⟨?_, ?_, ?_⟩, ?_⟩
    · refine HM.out.at_.kept (putObj_kept _ w2.heap.size _) fun k hm e => ?_
      subst e
      rcases HM.out.feet _ hm with h' | h'
      · have := hlt _ h'; omega
      · omega
    · exact HM.out.kept.trans (putObj_kept _ w2.heap.size _) fun i hi e => by omega
    · exact fun k hm => (HM.out.feet k hm).imp id fun h => by omega
    · refine ⟨HM.out.falls.1, fun i p q hp hq => (HM.out.falls.2 i p q hp hq).2 ?_⟩
      exact (sortN_perm ps).mem_iff.2 (List.mem_map.2 ⟨p, List.mem_of_getElem? hp, rfl⟩)
  case stop =>
    rintro c pre W hpre h
    exact h.elim
end Go.Proofs.YtibalgfejfjndaaGreatDoor
end

/-! Package files: Start. -/
section
set_option linter.unusedVariables false
set_option linter.unusedSimpArgs false
namespace Go.Proofs.YtibalgfejfjndaaGreatDoor
open Go.RowKit

set_option maxHeartbeats 1000000 in
theorem start_down (w : World) (F M : Nat) (ps : List PF) (clock : Nat) (lim arm : Int) (h : FilesAt w F M ps clock lim arm true) (hn : ps.length ≤ 1000000) (hm : ∀ p ∈ ps, p.name.size ≤ 1000000) :
    Calls Tryz.prog 47 #[.pointer (some ⟨F, 0, none⟩)] w fun e w' => e = .returned (.tuple #[]) ∧ ∃ qs, Went w F M ps qs clock lim 0 false w' ∧ All2 Fell ps qs := by
  have HC := Lib.hid (crash_any w F M ps clock lim arm true none 0 0 h hn hm (Lib.hid fun j hj => absurd hj (Nat.not_lt_zero _)))
  have h3 := FB.c3 h.fb
  clear h hn hm
  go_enter Tryz.func47, Tryz.ntmps47
  go_wp2_with (first | (go_at_call 20; refine HC.out.mono ?_; rintro e w1 ⟨rfl, qs, hw, ha⟩; have HW := Lib.hid hw; have HA := Lib.hid ha; have f2 := FB.fz hw.at_.fb 2; have f3 := FB.fz hw.at_.fb 3; have c2 := FB.c2 hw.at_.fb; have c3 := FB.c3 hw.at_.fb; clear hw ha))
  go_end0
  refine ⟨rfl, qs, HW.out.trans ⟨HW.out.at_.own (lim' := lim) (arm' := 0) (dn' := false) ((kF w1 F 3 _).trans' (kF _ F 2 _)) (FB.s2 (FB.s3 (show FB w1 F M lim arm true from HW.out.at_.fb) false) 0) HW.out.at_.lim0 (by omega), ((kF w1 F 3 _).trans' (kF _ F 2 _)).ofF, fun k hk => .inl hk⟩, HA.out⟩
end Go.Proofs.YtibalgfejfjndaaGreatDoor
end

/-! couranthelp.Bytes: two slices of bytes hold the same. -/
section
set_option linter.unusedVariables false
set_option linter.unusedSimpArgs false
namespace Go.Proofs.YtibalgfejfjndaaGreatDoor
open Go.RowKit

theorem conv_run (w : World) (A : Option Addr) (n c : Nat) (xs : List UInt8) (hn : n = xs.length) (h : Bs w A xs) : (convert 30 9 (.slice A n c)).run Tryz.prog w = .ok (.string ⟨xs.toArray⟩) w := by
  subst hn
  cases A with
  | none =>
    have := h.1 rfl
    subst this
    rw [run_convert_bytes_string w 30 9 5 none _ c Tryz.underlying30 Tryz.underlying5 Tryz.underlying9]
    rfl
  | some ad =>
    refine run_convert_bytes_back w 30 9 5 ad c xs Tryz.underlying30 Tryz.underlying5 Tryz.underlying9 ?_
    intro j hj
    have := h.2 ad rfl j (bv xs[j]) (by simp [hj])
    simpa [bv] using this
set_option maxHeartbeats 1000000 in
theorem bytes_any (w : World) (A B : Option Addr) (n c m d : Nat) (xs ys : List UInt8) (hn : n = xs.length) (hm : m = ys.length) (hx : Bs w A xs) (hy : Bs w B ys) :
    Calls Tryz.prog 57 #[.slice A n c, .slice B m d] w fun e w' => e = .returned (.bool (decide (xs = ys))) ∧ w = w' := by
  have h1 := conv_run w A n c xs hn hx
  have h2 := conv_run w B m d ys hm hy
  have HE : Hid ((xs == ys) = decide (xs = ys)) := Lib.hid (by rw [Bool.eq_iff_iff]; simp)
  clear hn hm hx hy
  go_enter Tryz.func57, Tryz.ntmps57
  go_wp2
  go_ret
  exact ⟨ret_bool HE.out, rfl⟩
end Go.Proofs.YtibalgfejfjndaaGreatDoor
end

/-! Files of a call's own, at whatever arm: what FilesSafe and FilesSwap are walked by. -/
section
set_option linter.unusedVariables false
set_option linter.unusedSimpArgs false
namespace Go.Proofs.YtibalgfejfjndaaGreatDoor
open Go.RowKit

def nmB : ByteArray := ⟨#[98]⟩
theorem nmB_full : fullB nmB = true := by kernel_rfl
/-- Files of this call's own. -/
structure Own (w W : World) (F M : Nat) (ps : List PF) (clock : Nat) (lim arm : Int) (dn : Bool) : Prop where
  at_ : FilesAt W F M ps clock lim arm dn
  new : ∀ k ∈ foot F M ps, w.heap.size ≤ k
  kept : Kept (fun _ => False) w W
variable {w W W' : World} {F M : Nat} {ps ps' : List PF} {clock clock' : Nat} {lim arm arm' : Int} {dn dn' : Bool}
theorem Own.step (h : Own w W F M ps clock lim arm dn) (k : Went W F M ps ps' clock' lim arm' dn' W') : Own w W' F M ps' clock' lim arm' dn' :=
  ⟨k.at_, fun i hi => (k.feet i hi).elim (h.new i) fun hi => Nat.le_trans h.kept.size hi, h.kept.trans k.kept fun i hi hm => by have := h.new i hm; omega⟩
theorem Own.stay (h : Own w W F M ps clock lim arm dn) (k : Kept (fun _ => False) W W') : Own w W' F M ps clock lim arm dn := ⟨h.at_.kept k (by simp), h.new, h.kept.trans' k⟩
theorem Room.own' (h : Room w W F M ps clock lim) : Own w W F M ps clock lim 0 false := ⟨h.at_, h.new, h.kept⟩
/-- A slice that came in is as it was. -/
theorem Own.bs (h : Own w W F M ps clock lim arm dn) {A : Option Addr} {xs : List UInt8} (hx : Bs w A xs) : Bs W A xs := hx.kept h.kept (by simp)
theorem Own.armed (h : Own w W F M ps clock lim arm dn) {n : Int} (h0 : 0 ≤ n) (h1 : n ≤ 100) : Calls Tryz.prog 19 #[.pointer (some ⟨F, 0, none⟩), .int .i64 n] W fun e w' => e = .returned (.tuple #[]) ∧ Own w w' F M ps clock lim n dn := by
  refine (arm_any n W F M lim arm dn h.at_.fb).mono ?_
  rintro e w' ⟨he, hfb, hk⟩
  have e1 : armI n = n := by unfold armI; split <;> omega
  rw [e1] at hfb
  exact ⟨he, h.step ⟨h.at_.own hk hfb h.at_.lim0 (by omega), hk.ofF, fun k hk => .inl hk⟩⟩
/-- All falls; it is started. -/
theorem Own.fallen (h : Own w W F M ps clock lim arm dn) {A : Option Addr} {n c : Nat} (hn : ps.length ≤ 1000000) (hm : ∀ p ∈ ps, p.name.size ≤ 1000000) (hks : ∀ j, j < n → ∃ ad z, A = some ad ∧ w.cell? (ad.add j) = some (.int .i64 z)) :
    Calls Tryz.prog 20 #[.pointer (some ⟨F, 0, none⟩), .slice A n c] W fun e w' => e = .returned (.tuple #[]) ∧ ∃ qs, Own w w' F M qs clock lim arm true ∧ All2 Fell ps qs := by
  refine (crash_any W F M ps clock lim arm dn A n c h.at_ hn hm (Lib.hid fun j hj => ?_)).mono ?_
  · obtain ⟨ad, z, e, hc⟩ := hks j hj
    refine ⟨ad, z, e, fun hf => ?_, h.kept.cell hc (by simp)⟩
    have h1 := h.new _ hf
    have h2 := World.block_lt_of_cell? w _ hc
    rw [add_block] at h2
    omega
  · rintro e w' ⟨he, qs, hw, ha⟩
    exact ⟨he, qs, h.step hw, ha⟩
theorem Own.started (h : Own w W F M ps clock lim arm true) (hn : ps.length ≤ 1000000) (hm : ∀ p ∈ ps, p.name.size ≤ 1000000) :
    Calls Tryz.prog 47 #[.pointer (some ⟨F, 0, none⟩)] W fun e w' => e = .returned (.tuple #[]) ∧ ∃ qs, Own w w' F M qs clock lim 0 false ∧ All2 Fell ps qs := by
  refine (start_down W F M ps clock lim arm h.at_ hn hm).mono ?_
  rintro e w' ⟨he, qs, hw, ha⟩
  exact ⟨he, qs, h.step hw, ha⟩
theorem All2.len {ps qs : List PF} (h : All2 Fell ps qs) : qs.length = ps.length := h.1.symm
theorem All2.names {ps qs : List PF} (h : All2 Fell ps qs) (hm : ∀ p ∈ ps, p.name.size ≤ 1000000) : ∀ q ∈ qs, q.name.size ≤ 1000000 := by
  intro q hq
  obtain ⟨i, hi⟩ := List.getElem?_of_mem hq
  have hil : i < ps.length := by rw [h.1]; exact (List.getElem?_eq_some_iff.1 hi).1
  have hp := List.getElem?_eq_getElem hil
  rw [(h.2 i _ q hp hi).name]
  exact hm _ (List.getElem_mem hil)
end Go.Proofs.YtibalgfejfjndaaGreatDoor
end
