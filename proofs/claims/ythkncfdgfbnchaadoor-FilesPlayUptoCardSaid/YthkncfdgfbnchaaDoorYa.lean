import Derived.Test.YthkncfdgfbnchaaDoorK
import Derived.Test.YthkncfdgfbnchaaDoorV1
import Derived.Sort.Walk0
import Derived.Deep.QuietTactic
import Derived.BigQuiet
import Derived.Deep.Cut
import Derived.Deep.RegionHeld3
import Derived.Deep.RegionLaw
/-! Package files: Crash, exactly: what of each file stays (keep goes along the names' order). -/
section
set_option linter.unusedVariables false
set_option linter.unusedSimpArgs false
namespace Go.Proofs.YthkncfdgfbnchaaDoor
open Go.RowKit
attribute [local go_sem] Oper.semAt_some

/-- How many of a file's waiting bytes stay. -/
def keepN (n : Nat) (zs : List Int) (i : Nat) (safe len : Nat) : Nat := if safe = len then 0 else if i < n then (max 0 (min (zs.getD i 0) ((len : Int) - (safe : Int)))).toNat else 0
theorem keepN_le (n : Nat) (zs : List Int) (i : Nat) {safe len : Nat} (h : safe ≤ len) : safe + keepN n zs i safe len ≤ len := by
  unfold keepN
  split
  · omega
  · split <;> omega
structure FellX (n : Nat) (zs : List Int) (i : Nat) (p q : PF) : Prop where
  name : q.name = p.name
  born : q.born = p.born
  b : q.b = p.b.take (p.safe + keepN n zs i p.safe p.b.length)
  safe : q.safe = p.safe + keepN n zs i p.safe p.b.length
/-- Does a file of that name wait? -/
def waits (ps : List PF) (x : List UInt8) : Bool := ps.any fun p => p.name.data.toList == x && p.safe != p.b.length
def cnt (ps : List PF) (pre : List (List UInt8)) : Nat := (pre.filter (waits ps)).length
theorem cnt_le (ps : List PF) (pre : List (List UInt8)) : cnt ps pre ≤ pre.length := List.length_filter_le _ _
theorem cnt_snoc (ps : List PF) (pre : List (List UInt8)) (x : List UInt8) : cnt ps (pre ++ [x]) = cnt ps pre + if waits ps x then 1 else 0 := by
  unfold cnt
  rw [List.filter_append, List.length_append]
  by_cases h : waits ps x <;> simp [h]
theorem waits_at {ps : List PF} {i : Nat} {p : PF} (hnd : (ps.map PF.name).Nodup) (hp : ps[i]? = some p) : waits ps p.name.data.toList = decide (p.safe ≠ p.b.length) := by
  rw [Bool.eq_iff_iff]
  simp only [waits, List.any_eq_true, Bool.and_eq_true, beq_iff_eq, bne_iff_ne, decide_eq_true_eq]
  constructor
  · rintro ⟨q, hq, hn, hs⟩
    obtain ⟨j, hj⟩ := List.getElem?_of_mem hq
    have e2 : q.name = p.name := by
      cases ha' : q.name; cases hp' : p.name
      rw [ha', hp'] at hn
      simp only at hn
      congr 1
      exact Array.toList_inj.1 hn
    have h1 : (ps.map PF.name)[i]? = some p.name := by simp [hp]
    have h2 : (ps.map PF.name)[j]? = some p.name := by simp [hj, e2]
    have hi : i < ps.length := (List.getElem?_eq_some_iff.1 hp).1
    have := (List.getElem?_inj (by simpa using hi) hnd).1 (h1.trans h2.symm)
    subst this
    rw [hp] at hj
    injection hj with hj
    rwa [hj]
  · intro hs
    exact ⟨p, List.mem_of_getElem? hp, rfl, hs⟩
def FallsX (n : Nat) (zs : List Int) (ps : List PF) (pre : List (List UInt8)) (p q : PF) : Prop := (p.name.data.toList ∉ pre → q = p) ∧ ∀ p1 p2, pre = p1 ++ p.name.data.toList :: p2 → FellX n zs (cnt ps p1) p q
theorem all2_setX {n : Nat} {zs : List Int} {pre : List (List UInt8)} {ps qs : List PF} {i : Nat} {p p' : PF} (h : All2 (FallsX n zs ps pre) ps qs) (hnd : (ps.map PF.name).Nodup) (hp : ps[i]? = some p) (hno : p.name.data.toList ∉ pre) (hf : FellX n zs (cnt ps pre) p p') :
    All2 (FallsX n zs ps (pre ++ [p.name.data.toList])) ps (qs.set i p') := by
  have hi : i < ps.length := (List.getElem?_eq_some_iff.1 hp).1
  refine ⟨by simpa using h.1, fun j a b ha hb => ?_⟩
  rw [List.getElem?_set] at hb
  by_cases hij : i = j
  · subst hij
    rw [hp] at ha
    injection ha with ha
    subst ha
    rw [if_pos rfl, if_pos (by have := h.1; omega)] at hb
    injection hb with hb
    subst hb
    refine ⟨fun hno => absurd (by simp) hno, fun p1 p2 e => ?_⟩
    rcases List.append_eq_append_iff.1 e with ⟨a', h1, h2⟩ | ⟨c', h1, h2⟩
    · cases a' with
      | nil => simp at h1; rw [h1]; exact hf
      | cons y ys => simp at h2
    · cases c' with
      | nil => simp at h1; rw [← h1]; exact hf
      | cons y ys =>
        simp only [List.cons_append, List.cons.injEq] at h2
        exact absurd (by rw [h1, ← h2.1]; simp) hno
  · rw [if_neg hij] at hb
    have hr := h.2 j a b ha hb
    have hne : a.name.data.toList ≠ p.name.data.toList := by
      intro e
      have e2 : a.name = p.name := by
        cases ha' : a.name; cases hp' : p.name
        rw [ha', hp'] at e
        simp only at e
        congr 1
        exact Array.toList_inj.1 e
      have hj : j < ps.length := (List.getElem?_eq_some_iff.1 ha).1
      have h1 : (ps.map PF.name)[i]? = some p.name := by simp [hp]
      have h2 : (ps.map PF.name)[j]? = some p.name := by simp [ha, e2]
      have := (List.getElem?_inj (by simpa using hi) hnd).1 (h1.trans h2.symm)
      exact hij this
    refine ⟨fun hno => hr.1 fun hm => hno (List.mem_append.2 (.inl hm)), fun p1 p2 e => ?_⟩
    rcases List.append_eq_append_iff.1 e with ⟨a', h1, h2⟩ | ⟨c', h1, h2⟩
    · cases a' with
      | nil => simp at h2; exact (hne (by simp [h2.1])).elim
      | cons y ys => simp at h2
    · cases c' with
      | nil => simp at h2; exact (hne (by simp [h2.1])).elim
      | cons y ys =>
        simp only [List.cons_append, List.cons.injEq] at h2
        exact hr.2 p1 ys (by rw [h1, h2.1])
theorem all2_startX (n : Nat) (zs : List Int) (ps : List PF) : All2 (FallsX n zs ps []) ps ps := ⟨rfl, fun i p q hp hq => ⟨fun _ => by rw [hp] at hq; injection hq with hq; exact hq.symm, fun p1 p2 e => by simp at e⟩⟩
structure MidX (n : Nat) (zs : List Int) (w W : World) (F M B0 B1 B2 D : Nat) (ps qs : List PF) (clock : Nat) (lim arm : Int) (pre : List (List UInt8)) (kp : Value) : Prop where
  at_ : FilesAt W F M qs clock lim arm true
  falls : All2 (FallsX n zs ps pre) ps qs
  b0 : Boxed W B0 24 (.pointer (some ⟨F, 0, none⟩))
  b1 : Boxed W B1 22 kp
  b2 : Boxed W B2 3 (.int .i64 (cnt ps pre : Nat))
  kept : Kept (fun k => k ∈ foot F M ps) w W
  feet : ∀ k ∈ foot F M qs, k ∈ foot F M ps ∨ D + 2 ≤ k
theorem MidX.carry {n : Nat} {zs : List Int} {w W W' : World} {F M B0 B1 B2 D : Nat} {ps qs : List PF} {clock : Nat} {lim arm : Int} {pre : List (List UInt8)} {kp : Value} (h : MidX n zs w W F M B0 B1 B2 D ps qs clock lim arm pre kp)
    (hk : Kept (fun k => False ∨ k = D ∨ k = D + 1) W W') (hf : ∀ k ∈ foot F M ps, k < w.heap.size) (hw : w.heap.size ≤ D) (h0 : B0 < D) (h1 : B1 < D) (h2 : B2 < D) : MidX n zs w W' F M B0 B1 B2 D ps qs clock lim arm pre kp := by
  have no : ∀ k, k < D → ¬ (False ∨ k = D ∨ k = D + 1) := by rintro k hk (h | h | h) <;> first | exact h.elim | omega
  refine ⟨h.at_.kept hk fun k hm => ?_, h.falls, hk.heap h.b0 (no _ h0), hk.heap h.b1 (no _ h1), hk.heap h.b2 (no _ h2), h.kept.trans hk fun i hi hm => ?_, h.feet⟩
  · rcases h.feet k hm with hm | hm
    · exact no k (by have := hf k hm; omega)
    · rintro (h | h | h) <;> first | exact h.elim | omega
  · exact absurd hm (no i (by omega))
/-- The file whose turn it is. -/
theorem turnX {n : Nat} {zs : List Int} {pre post : List (List UInt8)} {x : List UInt8} {ps qs : List PF} (hxs : sortN ps = pre ++ x :: post) (hnd : (ps.map PF.name).Nodup) (h : All2 (FallsX n zs ps pre) ps qs) :
    ∃ i p l1 l2, ps[i]? = some p ∧ qs = l1 ++ p :: l2 ∧ l1.length = i ∧ p.name.data.toList = x ∧ (⟨x.toArray⟩ : ByteArray) = p.name ∧ p.name.data.toList ∉ pre := by
  have hmem : x ∈ namesL ps := (sortN_perm ps).mem_iff.1 (by rw [hxs]; simp)
  obtain ⟨p, hp, rfl⟩ := List.mem_map.1 hmem
  obtain ⟨i, hi⟩ := List.getElem?_of_mem hp
  have hndN : (namesL ps).Nodup := by
    unfold namesL
    rw [show (ps.map fun p => p.name.data.toList) = (ps.map PF.name).map fun s => s.data.toList by rw [List.map_map]; rfl]
    refine List.Pairwise.map _ (fun a b hab e => hab ?_) hnd
    cases a; cases b
    simp only at e
    congr 1
    exact Array.toList_inj.1 e
  have hnd2 : (sortN ps).Nodup := (sortN_perm ps).nodup_iff.2 hndN
  have hno : p.name.data.toList ∉ pre := by
    rw [hxs, List.nodup_append] at hnd2
    exact fun hm => hnd2.2.2 _ hm _ (List.mem_cons_self ..) rfl
  have hil : i < qs.length := by rw [← h.1]; exact (List.getElem?_eq_some_iff.1 hi).1
  have hq : qs[i]? = some p := by
    have h1 := List.getElem?_eq_getElem hil
    rw [h1, (h.2 i p _ hi h1).1 hno]
  refine ⟨i, p, qs.take i, qs.drop (i + 1), hi, ?_, by rw [List.length_take]; omega, rfl, ?_, hno⟩
  · have := List.getElem_cons_drop hil
    rw [(List.getElem?_eq_some_iff.1 hq).2] at this
    rw [this, List.take_append_drop]
  · cases p.name; simp
/-- A round's end. -/
theorem round_stepX {n : Nat} {zs : List Int} {w W W' : World} {F M b D i : Nat} {ps l1 l2 : List PF} {p p' : PF} {clock : Nat} {lim arm : Int} {pre : List (List UInt8)} {kp : Value} {rd : Nat → Prop}
    (hM : MidX n zs w W F M b (b + 1) (b + 1 + 1) D ps (l1 ++ p :: l2) clock lim arm pre kp) (hb : b = w.heap.size) (hD : b + 3 ≤ D) (hlt : ∀ k ∈ foot F M ps, k < w.heap.size) (hi : ps[i]? = some p) (hli : l1.length = i) (hnd : (ps.map PF.name).Nodup)
    (hno : p.name.data.toList ∉ pre) (hf : FellX n zs (cnt ps pre) p p') (h2 : FilesAt W' F M (l1 ++ p' :: l2) clock lim arm true) (hk : Kept (fun k => k ∈ p.blocks ∨ k = b + 1 + 1) W W') (hfe : ∀ k ∈ p'.blocks, k ∈ p.blocks ∨ W.heap.size ≤ k) (hsz : D + 2 ≤ W.heap.size)
    (hb2 : Boxed W' (b + 1 + 1) 3 (.int .i64 ((cnt ps pre + if waits ps p.name.data.toList then 1 else 0 : Nat)))) (hrd : ∀ k, rd k → b + 3 ≤ k ∧ k < D) :
    (W.heap.size ≤ W'.heap.size ∧ ∀ k, (rd k ∨ k = D ∨ k = D + 1) → W'.heap[k]? = W.heap[k]?) ∧ ∃ qs, MidX n zs w W' F M b (b + 1) (b + 1 + 1) D ps qs clock lim arm (pre ++ [p.name.data.toList]) kp := by
  have hpf : ∀ k ∈ p.blocks, k < b ∨ D + 2 ≤ k := fun k hk => (hM.feet k (mem_foot (p := p) (by simp) hk)).imp (fun h => by have := hlt k h; omega) id
  have no : ∀ k, b ≤ k → k < D + 2 → k ≠ b + 1 + 1 → ¬ (k ∈ p.blocks ∨ k = b + 1 + 1) := fun k h1 h2 h3 h => h.elim (fun h => by have := hpf k h; omega) h3
  refine ⟨⟨hk.size, fun k h => ?_⟩, l1 ++ p' :: l2, h2, ?_, hk.heap hM.b0 (no _ (Nat.le_refl _) (by omega) (by omega)), hk.heap hM.b1 (no _ (by omega) (by omega) (by omega)), ?_, ?_, ?_⟩
  · rcases h with h | h | h
    · have := hrd k h
      exact hk.block k (by omega) (no k (by omega) (by omega) (by omega))
    · subst h; exact hk.block _ (by omega) (no _ (by omega) (by omega) (by omega))
    · subst h; exact hk.block _ (by omega) (no _ (by omega) (by omega) (by omega))
  · have := all2_setX hM.falls hnd hi hno hf
    rwa [show (l1 ++ p :: l2).set i p' = l1 ++ p' :: l2 by rw [← hli]; simp] at this
  · rw [cnt_snoc]; exact hb2
  · refine hM.kept.trans hk fun k hkw h => ?_
    rcases h with h | h
    · exact (hM.feet k (mem_foot (p := p) (by simp) h)).resolve_right (by omega)
    · omega
  · intro k hm
    have : k ∈ foot F M (l1 ++ p :: l2) ∨ k ∈ p'.blocks := by
      simp only [foot, List.flatMap_append, List.flatMap_cons, List.mem_cons, List.mem_append] at hm ⊢
      rcases hm with hm | hm | hm | hm | hm <;> simp [hm]
    rcases this with h | h
    · exact hM.feet k h
    · rcases hfe k h with h | h
      · exact hM.feet k (mem_foot (p := p) (by simp) h)
      · exact .inr (by omega)
set_option maxRecDepth 100000 in
set_option maxHeartbeats 4000000 in
theorem crash_ex (zs : List Int) (w : World) (F M : Nat) (ps : List PF) (clock : Nat) (lim arm : Int) (dn : Bool) (A : Option Addr) (n c : Nat) (h : FilesAt w F M ps clock lim arm dn) (hn : ps.length ≤ 1000000) (hm : ∀ p ∈ ps, p.name.size ≤ 1000000) (hks : Hid (∀ j, j < n → ∃ ad, A = some ad ∧ ad.block ∉ foot F M ps ∧ w.cell? (ad.add j) = some (.int .i64 (zs.getD j 0)))) :
    Calls Tryd.prog 17 #[.pointer (some ⟨F, 0, none⟩), .slice A n c] w fun e w' => e = .returned (.tuple #[]) ∧ ∃ qs, Went w F M ps qs clock lim arm true w' ∧ All2 (FallsX n zs ps (sortN ps)) ps qs := by
  refine calls_of_marks Tryd.func17 rfl ?_
  simp only [Tryd.ntmps17, List.size_toArray, List.length_cons, List.length_nil, Nat.reduceAdd, Nat.reduceSub, Array.replicate_succ, Array.replicate_zero, List.push_toArray, List.append_toArray, List.nil_append, List.cons_append]
  have HF := Lib.hid h
  obtain ⟨W0, hW0⟩ : ∃ W0, W0 = (w.alloc (.cells #[.pointer (some ⟨F, 0, none⟩)] 24)).alloc (.cells #[.slice A n c] 22) := ⟨_, rfl⟩
  have hk0 : Kept (fun _ => False) w W0 := by rw [hW0]; exact ((Kept.refl _ w).alloc _).alloc _
  have hfb0 : FB W0 F M lim arm dn := (h.kept hk0 (by simp)).fb
  have f3 := hfb0.fz 3
  have c3 := hfb0.c3
  obtain ⟨W1, hW1⟩ : ∃ W1, W1 = (W0.setCell ⟨F, 3, none⟩ (.bool true)).alloc (.cells #[.int .i64 0] 3) := ⟨_, rfl⟩
  have hk1 : Kept (fun k => k = F) w W1 := by rw [hW1]; exact (((hk0.mono fun _ _ h => h.elim).trans' (kF W0 F 3 _)).alloc _)
  have hF1 : FilesAt W1 F M ps clock lim arm true := h.own hk1 (by
    have hs := hfb0.s3 true
    have hk : Kept (fun _ => False) (W0.setCell ⟨F, 3, none⟩ (.bool true)) W1 := by rw [hW1]; exact (Kept.refl _ _).alloc _
    exact hk.heap hs (by simp)) h.lim0 h.arm0
  have HF1 := Lib.hid hF1
  have HK1 := Lib.hid hk1
  have HL := Lib.hid (list_any W1 F M ps clock lim arm true hF1 hn hm)
  rw [hW0] at f3 c3
  clear hF1 hk1 hk0 hfb0 h
  have hb0 : Boxed W1 w.heap.size 24 (.pointer (some ⟨F, 0, none⟩)) := by
    have hFs : F < w.heap.size := HF.out.lt F (by simp [foot])
    have e0 : Boxed W0 w.heap.size 24 (.pointer (some ⟨F, 0, none⟩)) := by rw [hW0]; exact (Boxed.new w 24 _).alloc _
    have e1 : Boxed (W0.setCell ⟨F, 3, none⟩ (.bool true)) w.heap.size 24 (.pointer (some ⟨F, 0, none⟩)) := (kF W0 F 3 _).heap e0 (by omega)
    rw [hW1]; exact e1.alloc _
  have hb1 : Boxed W1 (w.heap.size + 1) 22 (.slice A n c) := by
    have hFs : F < w.heap.size := HF.out.lt F (by simp [foot])
    have e0 : Boxed W0 (w.heap.size + 1) 22 (.slice A n c) := by
      have := Boxed.new (w.alloc (.cells #[.pointer (some ⟨F, 0, none⟩)] 24)) 22 (.slice A n c)
      rw [hW0]; simpa using this
    have e1 : Boxed (W0.setCell ⟨F, 3, none⟩ (.bool true)) (w.heap.size + 1) 22 (.slice A n c) := (kF W0 F 3 _).heap e0 (by omega)
    rw [hW1]; exact e1.alloc _
  have hs1 : W1.heap.size = w.heap.size + 3 := by rw [hW1, hW0]; simp [World.setCell]
  have hb2 : Boxed W1 (w.heap.size + 1 + 1) 3 (.int .i64 0) := by
    have := Boxed.new (W0.setCell ⟨F, 3, none⟩ (.bool true)) 3 (.int .i64 0)
    rw [hW1]
    rwa [show (W0.setCell ⟨F, 3, none⟩ (.bool true)).heap.size = w.heap.size + 1 + 1 by rw [hW0]; simp [World.setCell]] at this
  have HB0 := Lib.hid hb0
  have HB1 := Lib.hid hb1
  have HB2 := Lib.hid hb2
  have Hs1 := Lib.hid hs1
  clear hb0 hb1 hb2 hs1
  go_wp2_with (first | (go_at_call 28; rw [← hW0, ← hW1]; refine HL.out.mono ?_; rintro e w2 ⟨B, A2, c2, rfl, hb, hs, hA, hB, hk⟩))
  clear hW0 hW1 f3 c3
  have hlen : (sortN ps).length = ps.length := by rw [(sortN_perm ps).length_eq]; simp [namesL]
  have hit := values_iter B (sortN ps).length c2 A2 (sortN ps) w2 hb rfl (by rw [hlen]; exact hn) hs (fun ad e => (hA ad e).2)
  have hD : W1.heap.size ≤ w2.heap.size := hk.size
  have hs1 := Hs1.out
  have hlt := HF.out.lt
  refine wp_range (gf := 89) rfl (enters_of Tryd.func89 (by kernel_rfl) rfl) hit (fun _ => rfl) (fun k h => h.elim) (fun k ⟨ad, e, e2⟩ => by rw [← e2]; exact (hA ad e).2)
    (fun pre W => ∃ qs, MidX n zs w W F M w.heap.size (w.heap.size + 1) (w.heap.size + 1 + 1) w2.heap.size ps qs clock lim arm pre (.slice A n c))
    (fun c pre W => False)
    (fun pre A C h hk => h.imp fun qs h => h.carry hk hlt (by omega) (by omega) (by omega) (by omega))
    (fun c pre A C h hk => h.elim)
    ⟨ps, HF1.out.kept hk (by simp), all2_startX n zs ps, hk.heap HB0.out (by simp), hk.heap HB1.out (by simp), hk.heap HB2.out (by simp), HK1.out.ofF.trans' (hk.mono fun _ _ h => h.elim), fun k h => .inl h⟩
    (fun x => { tmps := #[.pointer (some ⟨F, 0, none⟩), .slice A n c, .pointer (some ⟨w.heap.size, 0, none⟩), .pointer (some ⟨w.heap.size + 1, 0, none⟩), .pointer (some ⟨w.heap.size + 1 + 1, 0, none⟩), .string ⟨x.toArray⟩, undef, undef, .pointer (some ⟨F, 0, none⟩), .bool false, .pointer (some ⟨F, 0, none⟩), .pointer (some ⟨F, 0, none⟩), .pointer (some ⟨F, 3, none⟩), .pointer (some ⟨F, 0, none⟩), .func (.func 89) #[] #[.pointer (some ⟨B, 0, none⟩)], .string ⟨x.toArray⟩, undef, undef, undef, undef, undef, undef, undef, undef, undef, undef, undef, undef, undef, undef, undef, undef, undef, undef, undef, undef, undef, undef, undef, undef, undef, undef, undef, undef, undef, undef, undef, undef, undef, undef, undef, undef, undef, undef, undef, undef, undef, undef, undef, undef, undef, undef, undef, undef, undef, undef, undef, undef, undef, undef, undef, undef, undef, undef, undef], defers := [] }) ?assign ?body ?done ?stop
  case assign =>
    intro l x W K hK
    gi_wp2
    exact hK
  case body =>
    rintro l pre x post W hxs ⟨qs, hmid⟩ hsz2
    obtain ⟨i, p, l1, l2, hi, rfl, hli, hpx, hpn, hno⟩ := turnX hxs HF.out.names hmid.falls
    rw [hpn]
    have HM := Lib.hid hmid
    have hlook := look_some hmid.at_.map (names_ne hmid.at_.names).1 false
    rw [if_neg (by decide)] at hlook
    have hb0 := hmid.b0.cell
    have hb1 := hmid.b1.cell
    have hb2 := hmid.b2
    obtain ⟨iv, hivE⟩ : ∃ iv, iv = cnt ps pre := ⟨_, rfl⟩
    rw [← hivE] at hb2
    have hiv : iv ≤ pre.length := by rw [hivE]; exact cnt_le _ _
    have HivE := Lib.hid hivE
    have Hno := Lib.hid hno
    have HWt := Lib.hid (waits_at HF.out.names hi)
    clear hivE hno
    have hb2c := hb2.cell
    have hb2f := hb2.frozen
    have h0 := FB.c0 hmid.at_.fb
    have hp := hmid.at_.at_ p (by simp)
    obtain ⟨A0, c0, hv, hlen0, hbs, hA0, _⟩ := Bs.of_own hp.own
    have hc0 := hp.c0
    rw [hv] at hc0
    have hc1 := hp.c1
    have hf0 := hp.fz 0
    have hf1 := hp.fz 1
    have hps := hp.safe
    have hpl := hp.len
    have HP := Lib.hid hp
    have HB2 := Lib.hid hb2
    have Hpx := Lib.hid hpx
    have Hi := Lib.hid hi
    have Hli := Lib.hid hli
    have Hiv := Lib.hid hiv
    have HV := Lib.hid hv
    have HA0 := Lib.hid hA0
    have Hlt := Lib.hid hlt
    have HAd := Lib.hid hA
    have Hpl9 : Hid (pre.length ≤ 1000000) := Lib.hid (by have h := congrArg List.length hxs; rw [hlen, List.length_append] at h; omega)
    clear hmid hit hpx hi hli hiv hv hA0 hbs hb2 hxs hpn hp hlen hlt hA hb hs HL HF1 hm
    by_cases hfull : p.safe = p.b.length
    · have hq9 : (p.safe : Int) = (p.b.length : Int) := by omega
      gi_wp2
      refine wpIn_still_drew 9 (by kernel_rfl) (by kernel_rfl) (by kernel_rfl) (fun ⟨_, _, h⟩ => h) ?_
      simp only [List.take_succ_cons, List.take_zero, List.drop_succ_cons, List.drop_zero]
      repeat still_step
      refine wpStill_nil ?_
      go_wp2
      gi_wp2
      have hrd : ∀ k, rdOf A2 k → w.heap.size + 3 ≤ k ∧ k < w2.heap.size := fun k ⟨ad, e, e2⟩ => by have := HAd.out ad e; omega
      have := round_stepX (rd := rdOf A2) (W' := W.drew) HM.out rfl (by omega) Hlt.out Hi.out Hli.out HF.out.names (p' := p) Hno.out ⟨rfl, rfl, by unfold keepN; rw [if_pos hfull, Nat.add_zero, hfull, List.take_length], by unfold keepN; rw [if_pos hfull, Nat.add_zero]⟩ (HM.out.at_.kept (Kept.refl (fun _ => False) W).drew (by simp)) (((Kept.refl (fun _ => False) W).drew).mono fun _ _ h => h.elim) (fun k h => .inl h) hsz2 (by rw [HWt.out, if_neg (by simp [hfull]), Nat.add_zero, ← HivE.out]; exact ((Kept.refl (fun _ => False) W).drew).heap HB2.out (by simp)) hrd
      rw [Hpx.out] at this
      exact this
    · have hq9 : ¬ (p.safe : Int) = (p.b.length : Int) := by omega
      have hqb : ((p.safe : Int) == (p.b.length : Int)) = false := by simp; omega
      by_cases hkeep : iv < n
      · skip
        obtain ⟨ad, rfl, hnf, hz⟩ := hks.out iv hkeep
        obtain ⟨z, hzz⟩ : ∃ z, z = zs.getD iv 0 := ⟨_, rfl⟩
        rw [← hzz] at hz
        have Hzz := Lib.hid hzz
        clear hzz
        have hzW := HM.out.kept.cell hz (by rw [add_block]; exact hnf)
        have hk9 : (iv : Int) < (n : Int) := by omega
        have hiv9 : (iv : Int) ≤ 1000000 := by have := Hiv.out; have := Hpl9.out; omega
        have hls : (0 : Int) < (p.b.length : Int) - (p.safe : Int) := by omega
        clear hz hnf
        · skip
          gi_wp2
          refine wpIn_still_drew 9 (by kernel_rfl) (by kernel_rfl) (by kernel_rfl) (fun ⟨_, _, h⟩ => h) ?_
          simp only [List.take_succ_cons, List.take_zero, List.drop_succ_cons, List.drop_zero]
          repeat still_step
          refine wpStill_nil ?_
          go_wp2
          gi_wp2
          refine wpIn_still_drew 16 (by kernel_rfl) (by kernel_rfl) (by kernel_rfl) (fun ⟨_, _, h⟩ => h) ?_
          simp only [List.take_succ_cons, List.take_zero, List.drop_succ_cons, List.drop_zero]
          repeat still_step
          refine wpStill_nil ?_
          go_wp2
          gi_wp2
          obtain ⟨m, hm⟩ : ∃ m : Nat, m = (max 0 (min z ((p.b.length : Int) - (p.safe : Int)))).toNat := ⟨_, rfl⟩
          have hmI : (max 0 (min z ((p.b.length : Int) - (p.safe : Int)))) = (m : Int) := by omega
          have hsm : p.safe + m ≤ p.b.length := by omega
          rw [hmI]
          have HmE : Hid (m = keepN n zs iv p.safe p.b.length) := Lib.hid (by unfold keepN; rw [if_neg hfull, if_pos hkeep, ← Hzz.out]; exact hm)
          clear hm hmI
          have hb2p : w.heap.size + 1 + 1 ∉ foot F M (l1 ++ p :: l2) := fun hm => by rcases HM.out.feet _ hm with h' | h'; have := Hlt.out _ h'; omega; omega
          have HB2p := Lib.hid hb2p
          obtain ⟨W3, hW3⟩ : ∃ W3, W3 = (W.setCell ⟨w.heap.size + 1 + 1, 0, none⟩ (.int .i64 ((iv : Int) + 1))).setCell ⟨p.blk, 1, none⟩ (.int .i64 ((p.safe : Int) + (m : Int))) := ⟨_, rfl⟩
          rw [← hW3]
          have hA3 := fall_at (s := p.safe + m) HP.out (fun hk => hb2p (mem_foot (p := p) (by simp) hk)) hsm hW3
          have HW3 := Lib.hid hW3
          clear hb2p hW3 hc0 hc1 hf0 hf1 hb0 hb1 hb2c hb2f h0 hlook
          have hc0 : W3.cell? ⟨p.blk, 0, none⟩ = some (.slice A0 p.b.length c0) := by have := hA3.c0; simp only at this; rwa [HV.out] at this
          have hc1 : W3.cell? ⟨p.blk, 1, none⟩ = some (.int .i64 ((p.safe : Int) + (m : Int))) := hA3.c1
          have hown0 := HP.out.own
          rw [HV.out] at hown0
          obtain ⟨hcap, hA00⟩ := own_cap hown0
          have hsl : ∀ W, (Instr.slice 29 (.slice A0 p.b.length c0) none (some (.int .i64 ((p.safe : Int) + (m : Int)))) none).run Tryd.prog W = .ok (.slice A0 (p.safe + m) c0) W := fun W => slice_run W A0 p.b.length (p.safe + m) c0 hA00 (by omega)
          have HA3 := Lib.hid hA3
          have HC : Hid (Calls Tryd.prog 50 #[.slice A0 (p.safe + m) c0] W3.drew.drew.drew (ClonePost W3.drew.drew.drew (p.b.take (p.safe + m)))) := Lib.hid (by
            have hat : PF.At W3.drew.drew.drew { p with safe := p.safe + m } := HA3.out.kept ((((Kept.refl (fun _ => False) W3).drew).drew).drew) (by simp)
            obtain ⟨A', c', hv', _, hbs', hA', _⟩ := Bs.of_own hat.own
            have hv2 : p.val = .slice A' p.b.length c' := hv'
            rw [HV.out] at hv2
            injection hv2 with e1 _ e3
            subst e1; subst e3
            refine clone_any _ A0 (p.safe + m) c0 _ (by simp; omega) (by omega) ⟨fun e => ?_, fun ad e j u hu => hbs'.2 ad e j u ?_⟩ hA'
            · have h1 : p.b = [] := hbs'.1 e
              simp [h1]
            · rw [List.map_take, List.getElem?_take] at hu
              split at hu
              · exact hu
              · cases hu)
          clear hA3 hown0 hcap hA00
          refine wpIn_region_calls (f := 50) (by kernel_rfl) (by kernel_rfl) (enters_of Tryd.func50 (by kernel_rfl) rfl) (fun ⟨_, _, h⟩ => h) ?_
          refine wpAny_take (i := 0) (v := ?_) rfl (by kernel_rfl) (by kernel_rfl) (by kernel_rfl) (fun _ _ _ h => h) (Or.inl ⟨by rfl, ?_⟩) ?_
          rotate_left
          · (intro w; go_simp; try with_reducible rfl)
          refine wpAny_take (i := 1) (v := ?_) rfl (by kernel_rfl) (by kernel_rfl) (by kernel_rfl) (fun _ _ _ h => h) (Or.inl ⟨by rfl, ?_⟩) ?_
          rotate_left
          · (intro w; go_simp; try with_reducible rfl)
          refine wpAny_take (i := 5) (v := ?_) rfl (by kernel_rfl) (by kernel_rfl) (by kernel_rfl) (fun _ _ _ h => h) (Or.inl ⟨by rfl, ?_⟩) ?_
          rotate_left
          · (intro w; go_simp; try with_reducible rfl)
          refine wpAny_take (i := 2) (v := ?_) rfl (by kernel_rfl) (by kernel_rfl) (by kernel_rfl) (fun _ _ _ h => h) (Or.inl ⟨by rfl, ?_⟩) ?_
          rotate_left
          · (intro w; go_simp; try with_reducible rfl)
          refine wpAny_take (i := 3) (v := ?_) rfl (by kernel_rfl) (by kernel_rfl) (by kernel_rfl) (fun _ _ _ h => h) (Or.inl ⟨by rfl, ?_⟩) ?_
          rotate_left
          · (intro w; go_simp; try with_reducible rfl)
          refine wpAny_take (i := 6) (v := ?_) rfl (by kernel_rfl) (by kernel_rfl) (by kernel_rfl) (fun _ _ _ h => h) (Or.inl ⟨by rfl, ?_⟩) ?_
          rotate_left
          · (intro w; go_simp; try with_reducible rfl)
          refine wpAny_take (i := 7) (v := ?_) rfl (by kernel_rfl) (by kernel_rfl) (by kernel_rfl) (fun _ _ _ h => h) (Or.inl ⟨by rfl, ?_⟩) ?_
          rotate_left
          · (intro w; go_simp; try with_reducible rfl)
          refine wpAny_ready (rs := [4, 8]) (by kernel_rfl) (by simp) ?_
          refine AllReady.cons rfl (fun K hK => ?_) (AllReady.cons rfl (fun K hK => ?_) AllReady.nil)
          all_goals go_simp
          all_goals (refine hK _ _ ?_; clear hK K)
          focus
            refine wpAny_ready (rs := [8]) (by kernel_rfl) (by simp) ?_
            refine AllReady.cons rfl (fun K hK => ?_) AllReady.nil
            go_simp
            refine hK _ _ ?_
            clear hK K
            refine wpAny_ready (rs := [9]) (by kernel_rfl) (by simp) ?_
          rotate_left
          focus
            refine wpAny_ready (rs := [4]) (by kernel_rfl) (by simp) ?_
            refine AllReady.cons rfl (fun K hK => ?_) AllReady.nil
            go_simp
            refine hK _ _ ?_
            clear hK K
            refine wpAny_ready (rs := [9]) (by kernel_rfl) (by simp) ?_
          all_goals refine AllReady.cons rfl (fun K hK => ?_) AllReady.nil
          all_goals go_simp
          all_goals (refine hK _ _ ?_; clear hK K)
          all_goals refine wpAny_ready (rs := [10]) (by kernel_rfl) (by simp) ?_
          all_goals refine AllReady.cons rfl (fun K hK => ?_) AllReady.nil
          all_goals try go_simp
          all_goals refine HC.out.mono ?_
          all_goals rintro e W4 ⟨v, rfl, hown, hk4⟩
          all_goals obtain ⟨A4, c4, rfl, _⟩ := Bs.of_own hown
          all_goals
            have hk34 : Kept (fun _ => False) W3 W4 := ((((Kept.refl (fun _ => False) W3).drew).drew).drew).trans' hk4
            have hE := fall_end (s := p.safe + m) HM.out.at_ HB2p.out hsm HB2.out HW3.out hk34 hown
            rw [List.length_take, Nat.min_eq_left hsm] at hE
            have HE := Lib.hid hE
            have g0 : W4.cell? ⟨p.blk, 0, none⟩ = some (.slice A0 p.b.length c0) := hk34.cell hc0 (by simp)
            have gf0 : W4.frozen? ⟨p.blk, 0, none⟩ = false := by have h4 := hk34.heap HA3.out.cell (by simp); simp only at h4; simp [World.frozen?, h4]
            clear hE hown hk4 hk34
          all_goals (refine hK _ _ ?_; clear hK K)
          all_goals refine wpAny_ready (rs := [11]) (by kernel_rfl) (by simp) ?_
          all_goals refine AllReady.cons rfl (fun K hK => ?_) AllReady.nil
          all_goals go_simp
          all_goals (refine hK _ _ ?_; clear hK K)
          all_goals refine wpAny_ready (rs := [12]) (by kernel_rfl) (by simp) ?_
          all_goals refine AllReady.cons rfl (fun K hK => ?_) AllReady.nil
          all_goals go_simp
          all_goals (refine hK _ _ ?_; clear hK K)
          all_goals refine wpAny_ready (rs := [13]) (by kernel_rfl) (by simp) ?_
          all_goals refine AllReady.cons rfl (fun K hK => ?_) AllReady.nil
          all_goals go_simp
          all_goals (refine hK _ _ ?_; clear hK K)
          all_goals refine wpAny_done (by kernel_rfl) ?_ _
          all_goals
            have hrd : ∀ k, rdOf A2 k → w.heap.size + 3 ≤ k ∧ k < w2.heap.size := fun k ⟨ad, e, e2⟩ => by have := HAd.out ad e; omega
            have hb := HE.out.2.2.2
            rw [show ((iv : Int) + 1) = ((iv + 1 : Nat) : Int) by omega] at hb
            have := round_stepX (rd := rdOf A2) (p' := { p with b := p.b.take (p.safe + m), safe := p.safe + m, val := .slice A4 (p.safe + m) c4 }) HM.out rfl (by omega) Hlt.out Hi.out Hli.out HF.out.names Hno.out ⟨rfl, rfl, by rw [← HivE.out, ← HmE.out], by rw [← HivE.out, ← HmE.out]⟩ HE.out.1 HE.out.2.1 HE.out.2.2.1 hsz2 (by rw [HWt.out, if_pos (by simp [hfull]), ← HivE.out]; exact hb) hrd
            rw [Hpx.out] at this
            exact this
      · have hk9 : ¬ (iv : Int) < (n : Int) := by omega
        have hiv9 : (iv : Int) ≤ 1000000 := by have := Hiv.out; have := Hpl9.out; omega
        gi_wp2
        refine wpIn_still_drew 9 (by kernel_rfl) (by kernel_rfl) (by kernel_rfl) (fun ⟨_, _, h⟩ => h) ?_
        simp only [List.take_succ_cons, List.take_zero, List.drop_succ_cons, List.drop_zero]
        repeat still_step
        refine wpStill_nil ?_
        go_wp2
        gi_wp2
        have hb2p : w.heap.size + 1 + 1 ∉ foot F M (l1 ++ p :: l2) := fun hm => by rcases HM.out.feet _ hm with h' | h'; have := Hlt.out _ h'; omega; omega
        have HB2p := Lib.hid hb2p
        obtain ⟨W3, hW3⟩ : ∃ W3, W3 = (W.setCell ⟨w.heap.size + 1 + 1, 0, none⟩ (.int .i64 ((iv : Int) + 1))).setCell ⟨p.blk, 1, none⟩ (.int .i64 p.safe) := ⟨_, rfl⟩
        rw [← hW3]
        have hA3 := fall_at HP.out (fun hk => hb2p (mem_foot (p := p) (by simp) hk)) hps hW3
        have HW3 := Lib.hid hW3
        clear hb2p hW3 hc0 hc1 hf0 hf1 hb0 hb1 hb2c hb2f h0 hlook
        have hc0 : W3.cell? ⟨p.blk, 0, none⟩ = some (.slice A0 p.b.length c0) := by have := hA3.c0; simp only at this; rwa [HV.out] at this
        have hc1 : W3.cell? ⟨p.blk, 1, none⟩ = some (.int .i64 p.safe) := hA3.c1
        have hown0 := HP.out.own
        rw [HV.out] at hown0
        obtain ⟨hcap, hA00⟩ := own_cap hown0
        have hsl := fun W => slice_run W A0 p.b.length p.safe c0 hA00 (by omega)
        have HA3 := Lib.hid hA3
        have HC : Hid (Calls Tryd.prog 50 #[.slice A0 p.safe c0] W3.drew.drew (ClonePost W3.drew.drew (p.b.take p.safe))) := Lib.hid (by
          have hat : PF.At W3.drew.drew { p with safe := p.safe } := HA3.out.kept (((Kept.refl (fun _ => False) W3).drew).drew) (by simp)
          obtain ⟨A', c', hv', _, hbs', hA', _⟩ := Bs.of_own hat.own
          have hv2 : p.val = .slice A' p.b.length c' := hv'
          rw [HV.out] at hv2
          injection hv2 with e1 _ e3
          subst e1; subst e3
          refine clone_any _ A0 p.safe c0 _ (by simp; omega) (by omega) ⟨fun e => ?_, fun ad e j u hu => hbs'.2 ad e j u ?_⟩ hA'
          · have h1 : p.b = [] := hbs'.1 e
            simp [h1]
          · rw [List.map_take, List.getElem?_take] at hu
            split at hu
            · exact hu
            · cases hu)
        clear hA3 hown0 hcap hA00
        refine wpIn_region_calls (f := 50) (by kernel_rfl) (by kernel_rfl) (enters_of Tryd.func50 (by kernel_rfl) rfl) (fun ⟨_, _, h⟩ => h) ?_
        refine wpAny_take (i := 0) (v := ?_) rfl (by kernel_rfl) (by kernel_rfl) (by kernel_rfl) (fun _ _ _ h => h) (Or.inl ⟨by rfl, ?_⟩) ?_
        rotate_left
        · (intro w; go_simp; try with_reducible rfl)
        refine wpAny_take (i := 1) (v := ?_) rfl (by kernel_rfl) (by kernel_rfl) (by kernel_rfl) (fun _ _ _ h => h) (Or.inl ⟨by rfl, ?_⟩) ?_
        rotate_left
        · (intro w; go_simp; try with_reducible rfl)
        refine wpAny_take (i := 5) (v := ?_) rfl (by kernel_rfl) (by kernel_rfl) (by kernel_rfl) (fun _ _ _ h => h) (Or.inl ⟨by rfl, ?_⟩) ?_
        rotate_left
        · (intro w; go_simp; try with_reducible rfl)
        refine wpAny_take (i := 2) (v := ?_) rfl (by kernel_rfl) (by kernel_rfl) (by kernel_rfl) (fun _ _ _ h => h) (Or.inl ⟨by rfl, ?_⟩) ?_
        rotate_left
        · (intro w; go_simp; try with_reducible rfl)
        refine wpAny_take (i := 3) (v := ?_) rfl (by kernel_rfl) (by kernel_rfl) (by kernel_rfl) (fun _ _ _ h => h) (Or.inl ⟨by rfl, ?_⟩) ?_
        rotate_left
        · (intro w; go_simp; try with_reducible rfl)
        refine wpAny_take (i := 6) (v := ?_) rfl (by kernel_rfl) (by kernel_rfl) (by kernel_rfl) (fun _ _ _ h => h) (Or.inl ⟨by rfl, ?_⟩) ?_
        rotate_left
        · (intro w; go_simp; try with_reducible rfl)
        refine wpAny_take (i := 7) (v := ?_) rfl (by kernel_rfl) (by kernel_rfl) (by kernel_rfl) (fun _ _ _ h => h) (Or.inl ⟨by rfl, ?_⟩) ?_
        rotate_left
        · (intro w; go_simp; try with_reducible rfl)
        refine wpAny_ready (rs := [4, 8]) (by kernel_rfl) (by simp) ?_
        refine AllReady.cons rfl (fun K hK => ?_) (AllReady.cons rfl (fun K hK => ?_) AllReady.nil)
        all_goals go_simp
        all_goals (refine hK _ _ ?_; clear hK K)
        focus
          refine wpAny_ready (rs := [8]) (by kernel_rfl) (by simp) ?_
          refine AllReady.cons rfl (fun K hK => ?_) AllReady.nil
          go_simp
          refine hK _ _ ?_
          clear hK K
          refine wpAny_ready (rs := [9]) (by kernel_rfl) (by simp) ?_
        rotate_left
        focus
          refine wpAny_ready (rs := [4]) (by kernel_rfl) (by simp) ?_
          refine AllReady.cons rfl (fun K hK => ?_) AllReady.nil
          go_simp
          refine hK _ _ ?_
          clear hK K
          refine wpAny_ready (rs := [9]) (by kernel_rfl) (by simp) ?_
        all_goals refine AllReady.cons rfl (fun K hK => ?_) AllReady.nil
        all_goals go_simp
        all_goals (refine hK _ _ ?_; clear hK K)
        all_goals refine wpAny_ready (rs := [10]) (by kernel_rfl) (by simp) ?_
        all_goals refine AllReady.cons rfl (fun K hK => ?_) AllReady.nil
        all_goals try go_simp
        all_goals refine HC.out.mono ?_
        all_goals rintro e W4 ⟨v, rfl, hown, hk4⟩
        all_goals obtain ⟨A4, c4, rfl, _⟩ := Bs.of_own hown
        all_goals
          have hk34 : Kept (fun _ => False) W3 W4 := (((Kept.refl (fun _ => False) W3).drew).drew).trans' hk4
          have hE := fall_end HM.out.at_ HB2p.out hps HB2.out HW3.out hk34 hown
          rw [List.length_take, Nat.min_eq_left hps] at hE
          have HE := Lib.hid hE
          have g0 : W4.cell? ⟨p.blk, 0, none⟩ = some (.slice A0 p.b.length c0) := hk34.cell hc0 (by simp)
          have gf0 : W4.frozen? ⟨p.blk, 0, none⟩ = false := by have h4 := hk34.heap HA3.out.cell (by simp); simp only at h4; simp [World.frozen?, h4]
          clear hE hown hk4 hk34
        all_goals (refine hK _ _ ?_; clear hK K)
        all_goals refine wpAny_ready (rs := [11]) (by kernel_rfl) (by simp) ?_
        all_goals refine AllReady.cons rfl (fun K hK => ?_) AllReady.nil
        all_goals go_simp
        all_goals (refine hK _ _ ?_; clear hK K)
        all_goals refine wpAny_ready (rs := [12]) (by kernel_rfl) (by simp) ?_
        all_goals refine AllReady.cons rfl (fun K hK => ?_) AllReady.nil
        all_goals go_simp
        all_goals (refine hK _ _ ?_; clear hK K)
        all_goals refine wpAny_ready (rs := [13]) (by kernel_rfl) (by simp) ?_
        all_goals refine AllReady.cons rfl (fun K hK => ?_) AllReady.nil
        all_goals go_simp
        all_goals (refine hK _ _ ?_; clear hK K)
        all_goals refine wpAny_done (by kernel_rfl) ?_ _
        all_goals
          have hrd : ∀ k, rdOf A2 k → w.heap.size + 3 ≤ k ∧ k < w2.heap.size := fun k ⟨ad, e, e2⟩ => by have := HAd.out ad e; omega
          have hb := HE.out.2.2.2
          rw [show ((iv : Int) + 1) = ((iv + 1 : Nat) : Int) by omega] at hb
          have := round_stepX (rd := rdOf A2) (p' := { p with b := p.b.take p.safe, safe := p.safe, val := .slice A4 p.safe c4 }) HM.out rfl (by omega) Hlt.out Hi.out Hli.out HF.out.names Hno.out ⟨rfl, rfl, by unfold keepN; rw [if_neg hfull, ← HivE.out, if_neg hkeep, Nat.add_zero], by unfold keepN; rw [if_neg hfull, ← HivE.out, if_neg hkeep, Nat.add_zero]⟩ HE.out.1 HE.out.2.1 HE.out.2.2.1 hsz2 (by rw [HWt.out, if_pos (by simp [hfull]), ← HivE.out]; exact hb) hrd
          rw [Hpx.out] at this
          exact this
  case done =>
    rintro W ⟨qs, hmid⟩ hD
    have HM := Lib.hid hmid
    have HD := Lib.hid hD
    clear hmid hD hit
    go_wp2
    refine leave_mark' HD.out (v := .tuple #[]) (results_none rfl _ _ _) ⟨rfl, qs, ⟨?_, ?_, ?_⟩, ?_⟩
    · refine HM.out.at_.kept (putObj_kept _ w2.heap.size _) fun k hm e => ?_
      subst e
      rcases HM.out.feet _ hm with h' | h'
      · have := hlt _ h'; omega
      · omega
    · exact HM.out.kept.trans (putObj_kept _ w2.heap.size _) fun i hi e => by omega
    · exact fun k hm => (HM.out.feet k hm).imp id fun h => by omega
    · exact HM.out.falls
  case stop =>
    rintro c pre W hpre h
    exact h.elim
end Go.Proofs.YthkncfdgfbnchaaDoor
end

/-! courantref16: how its files lie; New, Limit, Arm, hit, Used, at, find. -/
section
set_option linter.unusedVariables false
set_option linter.unusedSimpArgs false
namespace Go.Proofs.YthkncfdgfbnchaaDoor
open Go.RowKit

/-- A file of the reference, and the value of its bytes. -/
structure RV where
  name : ByteArray
  b : List UInt8
  safe : Nat
  val : Value
def RV.key (r : RV) : List UInt8 := r.name.data.toList
def RV.cells (r : RV) : List Value := [.string r.name, r.val, .int .i64 (r.safe : Nat)]
def cellsR (rs : List RV) : List Value := rs.flatMap RV.cells
theorem cellsR_len (rs : List RV) : (cellsR rs).length = 3 * rs.length := by
  induction rs with
  | nil => rfl
  | cons r rs ih =>
    have : (cellsR (r :: rs)).length = 3 + (cellsR rs).length := by simp [cellsR, RV.cells]; omega
    rw [this, ih, List.length_cons]; omega
theorem cellsR_at (rs : List RV) (k : Nat) (r : RV) (h : rs[k]? = some r) (i : Nat) (hi : i < 3) : (cellsR rs)[3 * k + i]? = r.cells[i]? := by
  induction rs generalizing k with
  | nil => simp at h
  | cons q rs ih =>
    have e : cellsR (q :: rs) = q.cells ++ cellsR rs := rfl
    have hq : q.cells.length = 3 := rfl
    cases k with
    | zero =>
      simp at h; subst h
      rw [e, List.getElem?_append_left (by rw [hq]; omega)]; congr 1; omega
    | succ k =>
      simp at h
      rw [e, List.getElem?_append_right (by rw [hq]; omega), hq, show 3 * (k + 1) + i - 3 = 3 * k + i by omega]
      exact ih k h
/-- The block of the reference's own fields. -/
def RB (w : World) (R : Nat) (v : Value) (most fuse : Int) (dn : Bool) : Prop := w.heap[R]? = some (.cells #[v, .int .i64 most, .int .i64 fuse, .bool dn] 52 (0, 0))
section
variable {w : World} {R : Nat} {v : Value} {most fuse : Int} {dn : Bool}
theorem RB.c0 (h : RB w R v most fuse dn) : w.cell? ⟨R, 0, none⟩ = some v := by simp [World.cell?, show w.heap[R]? = _ from h]
theorem RB.c1 (h : RB w R v most fuse dn) : w.cell? ⟨R, 1, none⟩ = some (.int .i64 most) := by simp [World.cell?, show w.heap[R]? = _ from h]
theorem RB.c2 (h : RB w R v most fuse dn) : w.cell? ⟨R, 2, none⟩ = some (.int .i64 fuse) := by simp [World.cell?, show w.heap[R]? = _ from h]
theorem RB.c3 (h : RB w R v most fuse dn) : w.cell? ⟨R, 3, none⟩ = some (.bool dn) := by simp [World.cell?, show w.heap[R]? = _ from h]
theorem RB.fz (h : RB w R v most fuse dn) (i : Nat) : w.frozen? ⟨R, i, none⟩ = false := by simp [World.frozen?, show w.heap[R]? = _ from h]
theorem RB.s0 (h : RB w R v most fuse dn) (u : Value) : RB (w.setCell ⟨R, 0, none⟩ u) R u most fuse dn := by
  unfold RB World.setCell; simp only [Array.getElem?_modify, if_true, show w.heap[R]? = _ from h]; rfl
theorem RB.s1 (h : RB w R v most fuse dn) (u : Int) : RB (w.setCell ⟨R, 1, none⟩ (.int .i64 u)) R v u fuse dn := by
  unfold RB World.setCell; simp only [Array.getElem?_modify, if_true, show w.heap[R]? = _ from h]; rfl
theorem RB.s2 (h : RB w R v most fuse dn) (u : Int) : RB (w.setCell ⟨R, 2, none⟩ (.int .i64 u)) R v most u dn := by
  unfold RB World.setCell; simp only [Array.getElem?_modify, if_true, show w.heap[R]? = _ from h]; rfl
theorem RB.s3 (h : RB w R v most fuse dn) (u : Bool) : RB (w.setCell ⟨R, 3, none⟩ (.bool u)) R v most fuse u := by
  unfold RB World.setCell; simp only [Array.getElem?_modify, if_true, show w.heap[R]? = _ from h]; rfl
end
structure RV.At (w : World) (r : RV) : Prop where
  own : w.ownsRow 0 5 1 r.val r.b.length (r.b.map bv)
  safe : r.safe ≤ r.b.length
  len : r.b.length ≤ 4194304
def rfoot (R : Nat) (v : Value) (rs : List RV) : List Nat := R :: (v.ownBlock.toList ++ rs.flatMap fun r => r.val.ownBlock.toList)
structure RefAt (w : World) (R : Nat) (v : Value) (rs : List RV) (most fuse : Int) (dn : Bool) : Prop where
  rb : RB w R v most fuse dn
  row : w.ownsRow 0 95 3 v rs.length (cellsR rs)
  at_ : ∀ r ∈ rs, r.At w
  sepR : v.ownBlock ≠ some R
  sep : ∀ r ∈ rs, ∀ k, r.val.ownBlock = some k → k ≠ R ∧ v.ownBlock ≠ some k
  few : rs.length ≤ 1000
  most0 : 0 ≤ most ∧ most ≤ 4194304
  fuse0 : 0 ≤ fuse ∧ fuse ≤ 9223372036854775807
section
variable {w w' : World} {R : Nat} {v : Value} {rs : List RV} {most fuse : Int} {dn : Bool}
theorem mem_rfoot {r : RV} (hr : r ∈ rs) {k : Nat} (hk : r.val.ownBlock = some k) : k ∈ rfoot R v rs := by
  simp only [rfoot, List.mem_cons, List.mem_append, List.mem_flatMap]
  exact .inr (.inr ⟨r, hr, by simp [hk]⟩)
theorem own_rfoot {k : Nat} (hk : v.ownBlock = some k) : k ∈ rfoot R v rs := by simp [rfoot, hk]
theorem RefAt.kept {S : Nat → Prop} (h : RefAt w R v rs most fuse dn) (hk : Kept S w w') (hS : ∀ k ∈ rfoot R v rs, ¬ S k) : RefAt w' R v rs most fuse dn :=
  ⟨hk.heap h.rb (hS R (by simp [rfoot])), own_kept h.row hk fun k e => hS k (own_rfoot e), fun r hr => ⟨own_kept (h.at_ r hr).own hk fun k e => hS k (mem_rfoot hr e), (h.at_ r hr).safe, (h.at_ r hr).len⟩, h.sepR, h.sep, h.few, h.most0, h.fuse0⟩
theorem RefAt.lt (h : RefAt w R v rs most fuse dn) : ∀ k ∈ rfoot R v rs, k < w.heap.size := by
  intro k hk
  simp only [rfoot, List.mem_cons, List.mem_append, List.mem_flatMap, Option.mem_toList] at hk
  rcases hk with rfl | hk | ⟨r, hr, hk⟩
  · exact (Array.getElem?_eq_some_iff.1 h.rb).1
  · exact own_lt' h.row k hk
  · exact own_lt' (h.at_ r hr).own k hk
/-- The slice itself, and a file's cells. -/
structure Rows3 (w : World) (A : Option Addr) (v : Value) (rs : List RV) (c : Nat) : Prop where
  cap : rs.length ≤ c
  none_ : A = none → rs = [] ∧ c = 0
  some_ : ∀ g, A = some g → g = ⟨g.block, 0, none⟩ ∧ v.ownBlock = some g.block ∧ (∀ i, i < 3 * rs.length → w.frozen? ⟨g.block, i, none⟩ = false) ∧
    ∀ (k : Nat) r, rs[k]? = some r → w.cell? ⟨g.block, k * 3, none⟩ = some (.string r.name) ∧ w.cell? ⟨g.block, k * 3 + 1, none⟩ = some r.val ∧ w.cell? ⟨g.block, k * 3 + 2, none⟩ = some (.int .i64 (r.safe : Nat))
theorem RefAt.form (h : RefAt w R v rs most fuse dn) : ∃ A c, v = .slice A rs.length c ∧ Rows3 w A v rs c := by
  rcases h.row.2 with ⟨hv, h0⟩ | ⟨g, cap, cur, hv, _, hh, hsz, hc, h63, ht⟩
  · exact ⟨none, 0, by rw [hv, h0], by omega, fun _ => ⟨List.eq_nil_of_length_eq_zero h0, rfl⟩, fun g e => by cases e⟩
  · refine ⟨some ⟨g, 0, none⟩, cap, hv, by omega, (fun e => by simp at e), ?_⟩
    rintro g' e
    injection e with e
    subst e
    refine ⟨rfl, by rw [hv]; rfl, fun i _ => by simp [World.frozen?, hh], fun k r hr => ?_⟩
    have key : ∀ i u, i < 3 → r.cells[i]? = some u → w.cell? ⟨g, k * 3 + i, none⟩ = some u := by
      intro i u hi hu
      have := h.row.cells (g := g) (by rw [hv]; rfl) (3 * k + i) u (by rw [cellsR_at rs k r hr i hi]; exact hu)
      have e1 : (⟨g, 0, none⟩ : Addr).add (3 * k + i) = ⟨g, k * 3 + i, none⟩ := by unfold Addr.add; split <;> simp_all <;> omega
      rwa [e1] at this
    exact ⟨key 0 _ (by omega) rfl, key 1 _ (by omega) rfl, key 2 _ (by omega) rfl⟩
theorem Rows3.at_ {w : World} {A : Option Addr} {v : Value} {rs : List RV} {c k : Nat} (h : Rows3 w A v rs c) {r : RV} (hr : rs[k]? = some r) : ∃ G, A = some ⟨G, 0, none⟩ ∧ v.ownBlock = some G ∧
    w.cell? ⟨G, k * 3, none⟩ = some (.string r.name) ∧ w.cell? ⟨G, k * 3 + 1, none⟩ = some r.val ∧ w.cell? ⟨G, k * 3 + 2, none⟩ = some (.int .i64 (r.safe : Nat)) ∧ (∀ i, i < 3 → w.frozen? ⟨G, k * 3 + i, none⟩ = false) := by
  have hk := (List.getElem?_eq_some_iff.1 hr).1
  cases A with
  | none => have := (h.none_ rfl).1; rw [this] at hr; simp at hr
  | some g =>
    obtain ⟨h1, h2, h3, h4⟩ := h.some_ g rfl
    obtain ⟨a, b, d⟩ := h4 k r hr
    exact ⟨g.block, by rw [← h1], h2, a, b, d, fun i hi => h3 _ (by omega)⟩
end
/-- Where a name stands, or would. -/
def atR (rs : List RV) (x : List UInt8) : Nat := (rs.takeWhile fun r => decide (r.key < x)).length
theorem atR_le (rs : List RV) (x : List UInt8) : atR rs x ≤ rs.length := (List.takeWhile_sublist _).length_le
theorem atR_eq {rs : List RV} {x : List UInt8} {k : Nat} (h : ∀ j r, j < k → rs[j]? = some r → r.key < x) (h2 : k = rs.length ∨ ∃ r, rs[k]? = some r ∧ ¬ r.key < x) (hk : k ≤ rs.length) : atR rs x = k := by
  unfold atR
  induction rs generalizing k with
  | nil => simp at hk; simp [hk]
  | cons q rs ih =>
    cases k with
    | zero =>
      rcases h2 with h2 | ⟨r, hr, hx⟩
      · simp at h2
      · simp at hr; subst hr
        simp [List.takeWhile_cons, hx]
    | succ k =>
      have hq := h 0 q (by omega) rfl
      rw [List.takeWhile_cons, if_pos (by simpa using hq), List.length_cons]
      rw [ih (k := k) (fun j r hj hr => h (j + 1) r (by omega) (by simpa using hr)) (by rcases h2 with h2 | ⟨r, hr, hx⟩; exact .inl (by simpa using h2); exact .inr ⟨r, by simpa using hr, hx⟩) (by simpa using hk)]
theorem str_lss (a b : ByteArray) : Op.bytesLess a.toList b.toList = decide (a.data.toList < b.data.toList) := by
  rw [Go.Proofs.bytesLess_eq, Lib.toList_data, Lib.toList_data]
theorem str_eq (a b : ByteArray) : (a.toList == b.toList) = decide (a = b) := by
  rw [Bool.eq_iff_iff, beq_iff_eq, decide_eq_true_eq]
  rw [Lib.toList_data, Lib.toList_data]
  refine ⟨fun h => ?_, fun h => by rw [h]⟩
  cases a; cases b
  simp only at h
  congr 1
  exact Array.toList_inj.1 h
set_option maxHeartbeats 1000000 in
theorem rat_any (s : ByteArray) (w : World) (R : Nat) (v : Value) (rs : List RV) (most fuse : Int) (dn : Bool) (h : RefAt w R v rs most fuse dn) :
    Calls Tryd.prog 92 #[.pointer (some ⟨R, 0, none⟩), .string s] w fun e w' => e = .returned (.int .i64 (atR rs s.data.toList)) ∧ w' = w := by
  obtain ⟨A, c, rfl, hf⟩ := h.form
  have h0 := h.rb.c0
  obtain ⟨n, hn⟩ : ∃ n, n = rs.length := ⟨_, rfl⟩
  have Hn := Lib.hid hn
  have HR := Lib.hid hf
  have hn9 : (n : Int) ≤ 1000 := by have := h.few; omega
  rw [← hn] at h0
  try rw [← hn]
  clear h hf hn
  go_enter Tryd.func92, Tryd.ntmps92
  go_wp2_with fail
  go_loop [5] (fun i => ∃ k : Nat, k ≤ n ∧ i = .int .i64 k ∧ Hid (∀ j r, j < k → rs[j]? = some r → r.key < s.data.toList)) (fun i => n - (intOf i).toNat)
  case atStart => exact ⟨0, by omega, rfl, Lib.hid fun j r hj => by omega⟩
  case round =>
    obtain ⟨k, hk, rfl, hpre⟩ := hrel
    by_cases hlt : k < n
    · have hk9 : (k : Int) < (n : Int) := by omega
      obtain ⟨r, hr⟩ : ∃ r, rs[k]? = some r := ⟨_, List.getElem?_eq_getElem (by have := Hn.out; omega)⟩
      obtain ⟨G, rfl, -, hc0, -, -, -⟩ := HR.out.at_ hr
      have hl := str_lss r.name s
      have Hr := Lib.hid hr
      clear hr
      by_cases hb : r.key < s.data.toList
      · rw [show decide (r.name.data.toList < s.data.toList) = true from decide_eq_true hb] at hl
        have Hb := Lib.hid hb
        clear hb
        go_wp2
        go_round
        case rel => exact ⟨k + 1, by omega, by go_num, Lib.hid fun j q hj hq => by
          rcases Nat.lt_or_ge j k with h | h
          · exact hpre.out j q h hq
          · have : j = k := by omega
            subst this
            rw [Hr.out] at hq
            injection hq with hq
            rw [← hq]; exact Hb.out⟩
        case measure => simp [intOf]; omega
      · rw [show decide (r.name.data.toList < s.data.toList) = false from decide_eq_false hb] at hl
        have Hb := Lib.hid hb
        clear hb
        go_wp2
        go_ret
        exact ⟨ret_int (by rw [atR_eq hpre.out (.inr ⟨r, Hr.out, Hb.out⟩) (by have := Hn.out; omega)]), rfl⟩
    · obtain rfl : k = n := by omega
      go_wp2
      go_ret
      exact ⟨ret_int (by rw [atR_eq hpre.out (.inl Hn.out) (by have := Hn.out; omega)]), rfl⟩
end Go.Proofs.YthkncfdgfbnchaaDoor
end

/-! courantref16: find, hit, Arm, Limit, New, Used. -/
section
set_option linter.unusedVariables false
set_option linter.unusedSimpArgs false
namespace Go.Proofs.YthkncfdgfbnchaaDoor
open Go.RowKit

/-- The names rise. -/
def SortedR (rs : List RV) : Prop := (rs.map RV.key).Pairwise (· < ·)
theorem key_inj {a b : ByteArray} (h : a.data.toList = b.data.toList) : a = b := by
  cases a; cases b
  simp only at h
  congr 1
  exact Array.toList_inj.1 h
theorem SortedR.at_mid {r1 r2 : List RV} {r : RV} (h : SortedR (r1 ++ r :: r2)) : atR (r1 ++ r :: r2) r.key = r1.length := by
  refine atR_eq (fun j q hj hq => ?_) (.inr ⟨r, by simp, fun h => List.lt_irrefl _ h⟩) (by simp)
  rw [List.getElem?_append_left hj] at hq
  unfold SortedR at h
  rw [List.map_append, List.pairwise_append] at h
  exact h.2.2 _ (List.mem_map_of_mem (List.mem_of_getElem? hq)) _ (by simp)
theorem find_at {rs : List RV} {s : ByteArray} (hno : ∀ r ∈ rs, r.name ≠ s) {r : RV} (hr : rs[atR rs s.data.toList]? = some r) : r.name ≠ s := hno r (List.mem_of_getElem? hr)
set_option maxHeartbeats 1000000 in
theorem rfind_some (w : World) (R : Nat) (v : Value) (r1 r2 : List RV) (r : RV) (most fuse : Int) (dn : Bool) (hs : SortedR (r1 ++ r :: r2)) (h : RefAt w R v (r1 ++ r :: r2) most fuse dn) :
    Calls Tryd.prog 67 #[.pointer (some ⟨R, 0, none⟩), .string r.name] w fun e w' => e = .returned (.int .i64 r1.length) ∧ w' = w := by
  have HA := Lib.hid (rat_any r.name w R v _ most fuse dn h)
  have e1 : atR (r1 ++ r :: r2) r.name.data.toList = r1.length := hs.at_mid
  rw [e1] at HA
  obtain ⟨A, c, rfl, hf⟩ := h.form
  have h0 := h.rb.c0
  have hr : (r1 ++ r :: r2)[r1.length]? = some r := by simp
  obtain ⟨G, rfl, -, hc0, -, -, -⟩ := hf.at_ hr
  obtain ⟨n, hn⟩ : ∃ n, n = (r1 ++ r :: r2).length := ⟨_, rfl⟩
  rw [← hn] at h0
  obtain ⟨k, hk⟩ : ∃ k, k = r1.length := ⟨_, rfl⟩
  rw [← hk] at hc0 HA ⊢
  have hk9 : (k : Int) < (n : Int) := by rw [hn, hk]; simp; omega
  clear h hf hn hk hr e1 hs
  go_enter Tryd.func67, Tryd.ntmps67
  go_wp2_with (go_at_call 92; refine HA.out.mono ?_; rintro e w' ⟨rfl, rfl⟩)
  go_ret
  exact ⟨rfl, rfl⟩
set_option maxHeartbeats 1000000 in
theorem rfind_none (s : ByteArray) (w : World) (R : Nat) (v : Value) (rs : List RV) (most fuse : Int) (dn : Bool) (hno : ∀ r ∈ rs, r.name ≠ s) (h : RefAt w R v rs most fuse dn) :
    Calls Tryd.prog 67 #[.pointer (some ⟨R, 0, none⟩), .string s] w fun e w' => e = .returned (.int .i64 (-1)) ∧ w' = w := by
  have HA := Lib.hid (rat_any s w R v _ most fuse dn h)
  have hle := atR_le rs s.data.toList
  obtain ⟨A, c, rfl, hf⟩ := h.form
  have h0 := h.rb.c0
  obtain ⟨k, hk⟩ : ∃ k, k = atR rs s.data.toList := ⟨_, rfl⟩
  by_cases hlt : k < rs.length
  · obtain ⟨r, hr⟩ : ∃ r, rs[k]? = some r := ⟨_, List.getElem?_eq_getElem hlt⟩
    have hne := str_eq r.name s
    rw [decide_eq_false (hno r (List.mem_of_getElem? hr))] at hne
    obtain ⟨G, rfl, -, hc0, -, -, -⟩ := hf.at_ hr
    obtain ⟨n, hn⟩ : ∃ n, n = rs.length := ⟨_, rfl⟩
    rw [← hn] at h0
    rw [← hk] at HA
    have hk9 : (k : Int) < (n : Int) := by omega
    clear h hf hn hk hr hno hle hlt
    go_enter Tryd.func67, Tryd.ntmps67
    go_wp2_with (go_at_call 92; refine HA.out.mono ?_; rintro e w' ⟨rfl, rfl⟩)
    go_ret
    exact ⟨rfl, rfl⟩
  · obtain ⟨n, hn⟩ : ∃ n, n = rs.length := ⟨_, rfl⟩
    rw [← hn] at h0
    rw [← hk, show k = n by omega] at HA
    clear h hf hk hno hle hlt hn
    go_enter Tryd.func67, Tryd.ntmps67
    go_wp2_with (go_at_call 92; refine HA.out.mono ?_; rintro e w' ⟨rfl, rfl⟩)
    go_ret
    exact ⟨rfl, rfl⟩

/-! ### The fields -/
def RHit (w : World) (R : Nat) (v : Value) (most fuse : Int) (e : Ending) (w' : World) : Prop :=
  e = .returned (.bool (decide (fuse = 1))) ∧ RB w' R v most (decA fuse) (decide (fuse = 1)) ∧ Kept (fun k => k = R) w w'
set_option maxHeartbeats 400000 in
theorem rhit_any (w : World) (R : Nat) (v : Value) (most fuse : Int) (h : RB w R v most fuse false) (ha : 0 ≤ fuse ∧ fuse ≤ 9223372036854775807) : Calls Tryd.prog 84 #[.pointer (some ⟨R, 0, none⟩)] w (RHit w R v most fuse) := by
  obtain ⟨ha0, ha1⟩ := ha
  have H := Lib.hid h
  by_cases h0 : fuse = 0
  · subst h0
    have h2 := h.c2
    clear h
    go_enter Tryd.func84, Tryd.ntmps84
    go_wp2
    go_ret
    exact ⟨rfl, H.out, Kept.refl _ _⟩
  · have h2 := h.c2
    have f2 := h.fz 2
    have f3 := h.fz 3
    have h3 := h.c3
    have h0' : (fuse == 0) = false := by simp [h0]
    by_cases h1 : fuse = 1
    · subst h1
      clear h
      go_enter Tryd.func84, Tryd.ntmps84
      go_wp2
      go_ret
      exact ⟨rfl, (H.out.s2 0).s3 true, (kF _ _ _ _).trans' (kF _ _ _ _)⟩
    · have h1' : (fuse - 1 == 0) = false := by rw [beq_eq_false_iff_ne]; omega
      have Hd := Lib.hid (show decide (fuse = 1) = false by simp [h1])
      have He := Lib.hid (show decA fuse = fuse - 1 by unfold decA; rw [if_neg h0])
      have hgt : 1 < fuse := by omega
      clear h h0 h1
      go_enter Tryd.func84, Tryd.ntmps84
      go_wp2
      go_ret
      unfold RHit
      rw [Hd.out, He.out]
      exact ⟨rfl, (H.out.s2 (fuse - 1)).s3 false, (kF _ _ _ _).trans' (kF _ _ _ _)⟩
set_option maxHeartbeats 400000 in
theorem rarm_any (n : Int) (w : World) (R : Nat) (v : Value) (most fuse : Int) (dn : Bool) (h : RB w R v most fuse dn) : Calls Tryd.prog 57 #[.pointer (some ⟨R, 0, none⟩), .int .i64 n] w fun e w' => e = .returned (.tuple #[]) ∧ RB w' R v most (armI n) dn ∧ Kept (fun k => k = R) w w' := by
  have H := Lib.hid h
  have h2 := h.c2
  have f2 := h.fz 2
  clear h
  have Ha := Lib.hid (show armI n = max 0 n by unfold armI; split <;> omega)
  go_enter Tryd.func57, Tryd.ntmps57
  go_wp2
  go_end0
  exact ⟨rfl, by rw [Ha.out]; exact H.out.s2 _, kF _ _ _ _⟩
def RLim (w : World) (R : Nat) (v : Value) (n fuse : Int) (dn : Bool) (e : Ending) (w' : World) : Prop := e = .returned (.tuple #[]) ∧ RB w' R v (boundI n) fuse dn ∧ Kept (fun k => k = R) w w'
set_option maxHeartbeats 400000 in
theorem rlimit_any (n : Int) (w : World) (R : Nat) (v : Value) (most fuse : Int) (dn : Bool) (h : RB w R v most fuse dn) : Calls Tryd.prog 51 #[.pointer (some ⟨R, 0, none⟩), .int .i64 n] w (RLim w R v n fuse dn) := by
  have H := Lib.hid h
  have h1 := h.c1
  have f1 := h.fz 1
  clear h
  have HB := Lib.hid (show boundI n = max 0 (min n 4194304) by unfold boundI; split <;> (try split) <;> omega)
  go_enter Tryd.func51, Tryd.ntmps51
  go_wp2
  go_end0
  exact ⟨rfl, by rw [HB.out]; exact H.out.s1 _, kF _ _ _ _⟩
theorem zeroRF : (Tryd.prog.info? 52).map (fun i => (i.zero, i.size, i.bytes)) = some (some (.agg #[.slice none 0 0, .int .i64 0, .int .i64 0, .bool false]), 4, 48) := by kernel_rfl
set_option maxHeartbeats 1000000 in
theorem rnew_any (n : Int) (w : World) : Calls Tryd.prog 23 #[.int .i64 n] w fun e w' => ∃ R, e = .returned (.pointer (some ⟨R, 0, none⟩)) ∧ R = w.heap.size ∧ RefAt w' R (.slice none 0 0) [] (boundI n) 0 false ∧ Kept (fun _ => False) w w' := by
  go_enter Tryd.func23, Tryd.ntmps23
  go_upto_region 2 with fail
  have hb : RB (w.alloc (.cells #[.slice none 0 0, .int .i64 0, .int .i64 0, .bool false] 52)) w.heap.size (.slice none 0 0) 0 0 false := heap_alloc_new w _
  have HL := Lib.hid (rlimit_any n _ _ _ _ _ _ hb)
  clear hb
  go_wp2_with (go_at_call 51; refine HL.out.mono ?_; rintro e w1 ⟨rfl, hb, hk⟩; have HB := Lib.hid hb; have HK := Lib.hid hk; clear hb hk)
  go_ret
  exact ⟨_, rfl, rfl, ⟨HB.out, World.ownsRow_nil _ _ _ _, fun r hr => by simp at hr, by simp [Value.ownBlock], fun r hr => by simp at hr, by simp, boundI_r n, by omega⟩, (((Kept.refl (fun _ => False) w).alloc _)).trans (HK.out) fun i hi e => by omega⟩
def usedR (rs : List RV) : Nat := (rs.map fun r => r.b.length).sum
theorem usedR_take (rs : List RV) (k : Nat) (r : RV) (h : rs[k]? = some r) : usedR (rs.take (k + 1)) = usedR (rs.take k) + r.b.length := by
  unfold usedR
  rw [List.take_add_one, h]
  simp
theorem usedR_le (rs : List RV) (k : Nat) : usedR (rs.take k) ≤ usedR rs := by
  have : usedR rs = usedR (rs.take k) + usedR (rs.drop k) := by
    unfold usedR
    rw [← List.sum_append, ← List.map_append, List.take_append_drop]
  omega
set_option maxHeartbeats 1000000 in
theorem rused_any (w : World) (R : Nat) (v : Value) (rs : List RV) (most fuse : Int) (dn : Bool) (h : RefAt w R v rs most fuse dn) (hu : usedR rs ≤ 1000000000) :
    Calls Tryd.prog 26 #[.pointer (some ⟨R, 0, none⟩)] w fun e w' => e = .returned (.int .i64 (usedR rs)) ∧ w' = w := by
  obtain ⟨A, c, rfl, hf⟩ := h.form
  have h0 := h.rb.c0
  have hat := h.at_
  obtain ⟨n, hn⟩ : ∃ n, n = rs.length := ⟨_, rfl⟩
  have Hn := Lib.hid hn
  have HR := Lib.hid hf
  have HAt := Lib.hid hat
  have Hu := Lib.hid hu
  have hn9 : (n : Int) ≤ 1000 := by have := h.few; omega
  rw [← hn] at h0
  clear h hf hn hat hu
  go_enter Tryd.func26, Tryd.ntmps26
  go_wp2_with fail
  go_loop [3, 4] (fun m i => ∃ k u : Nat, k ≤ n ∧ i = .int .i64 k ∧ m = .int .i64 u ∧ Hid (u = usedR (rs.take k))) (fun _ i => n - (intOf i).toNat)
  case atStart => exact ⟨0, 0, by omega, rfl, rfl, Lib.hid (by simp [usedR])⟩
  case round =>
    obtain ⟨k, u, hk, rfl, rfl, hu⟩ := hrel
    by_cases hlt : k < n
    · have hk9 : (k : Int) < (n : Int) := by omega
      obtain ⟨r, hr⟩ : ∃ r, rs[k]? = some r := ⟨_, List.getElem?_eq_getElem (by have := Hn.out; omega)⟩
      obtain ⟨G, rfl, -, -, hc1, -, -⟩ := HR.out.at_ hr
      obtain ⟨A2, c2, hv, -, -, -, -⟩ := Bs.of_own (HAt.out r (List.mem_of_getElem? hr)).own
      rw [hv] at hc1
      have hs := usedR_take rs k r hr
      have hu9 : (u : Int) + (r.b.length : Int) ≤ 1000000000 := by
        have h1 := hu.out
        have h2 := usedR_le rs (k + 1)
        have h3 := Hu.out
        omega
      have Hs := Lib.hid hs
      clear hr hv hs
      go_wp2
      go_round
      case rel => exact ⟨k + 1, u + r.b.length, by omega, by go_num, by go_num, Lib.hid (by rw [Hs.out, hu.out])⟩
      case measure => simp [intOf]; omega
    · obtain rfl : k = n := by omega
      have hE : usedR rs = u := by rw [hu.out, Hn.out, List.take_length]
      have HE := Lib.hid hE
      clear hE
      go_wp2
      go_ret
      exact ⟨ret_int (by rw [HE.out]), rfl⟩
end Go.Proofs.YthkncfdgfbnchaaDoor
end

/-! courantref16: cut, put. -/
section
set_option linter.unusedVariables false
set_option linter.unusedSimpArgs false
namespace Go.Proofs.YthkncfdgfbnchaaDoor
open Go.RowKit

theorem infoRf : (Tryd.prog.info? 95).map (fun i => (i.zero, i.size, i.bytes)) = some (some (.agg #[.string ⟨#[]⟩, .slice none 0 0, .int .i64 0]), 3, 48) := by kernel_rfl
/-- What a slice reads as, cell by cell. -/
def Cs (w : World) (A : Option Addr) (xs : List Value) : Prop := (A = none → xs = []) ∧ ∀ ad, A = some ad → ∀ (j : Nat) u, xs[j]? = some u → w.cell? (ad.add j) = some u
theorem Cs.kept {S : Nat → Prop} {w w' : World} {A : Option Addr} {xs : List Value} (h : Cs w A xs) (hk : Kept S w w') (hS : ∀ ad, A = some ad → ¬ S ad.block) : Cs w' A xs :=
  ⟨h.1, fun ad e j u hu => hk.cell (h.2 ad e j u hu) (by rw [add_block]; exact hS ad e)⟩
theorem cellsR_one (rs : List RV) : (∀ r ∈ rs, r.val.oneCell' = true) → ∀ u ∈ cellsR rs, u.oneCell' = true := by
  intro h u hu
  simp only [cellsR, List.mem_flatMap] at hu
  obtain ⟨r, hr, hu⟩ := hu
  simp only [RV.cells, List.mem_cons, List.not_mem_nil, or_false] at hu
  rcases hu with rfl | rfl | rfl
  · rfl
  · exact h r hr
  · rfl
theorem cellsR_append (a b : List RV) : cellsR (a ++ b) = cellsR a ++ cellsR b := by simp [cellsR]
theorem slice_to3 (W : World) (A : Option Addr) (l n c : Nat) (hn : n ≤ c) : (Instr.slice 50 (.slice A l c) none (some (.int .i64 n)) none).run Tryd.prog W = .ok (.slice A n c) W := by
  have hsz : ∀ W, (sizeOf 95).run Tryd.prog W = .ok 3 W := fun W => by kernel_rfl
  have h1 : (0 : Int) ≤ (n : Int) ∧ (n : Int) ≤ (c : Int) := by omega
  simp only [Instr.slice, Sem.run_bind, run_underlying Tryd.underlying50, Result.andThen, Instr.sliceBounds, Instr.sliceBound, asIntOf, Sem.run_pure, if_pos h1, hsz, Int.toNat_natCast, Nat.zero_mul, Nat.sub_zero]
  split
  · rfl
  · rw [add0 A]
theorem slice_from3 (W : World) (A : Option Addr) (l n c : Nat) (hn : n ≤ l) (hl : l ≤ c) : (Instr.slice 50 (.slice A l c) (some (.int .i64 n)) none none).run Tryd.prog W = .ok (.slice (if c = n then A else A.map (·.add (n * 3))) (l - n) (c - n)) W := by
  have hsz : ∀ W, (sizeOf 95).run Tryd.prog W = .ok 3 W := fun W => by kernel_rfl
  have h1 : (0 : Int) ≤ (n : Int) ∧ (n : Int) ≤ (l : Int) := by omega
  have h2 : (0 : Int) ≤ (l : Int) ∧ (l : Int) ≤ (c : Int) := by omega
  have h3 : n ≤ c := by omega
  simp only [Instr.slice, Sem.run_bind, run_underlying Tryd.underlying50, Result.andThen, Instr.sliceBounds, Instr.sliceBound, asIntOf, Sem.run_pure, if_pos h1, if_pos h2, hsz, Int.toNat_natCast]
/-- append(s, xs...) onto a slice of files of the call's own. -/
theorem wp_append_rf {w : World} {o : Oper} {a : Act} {K : Act → World → Prop} {Q : Exit → Act → World → Prop} (s x : Operand)
    (ho : o.op = .call { callee := .builtin .append, args := #[s, x], argTypes := #[50, 50] })
    (base : Nat) (v : Value) (n : Nat) (ys : List Value) (hs : a.eval s = v) (hown : w.ownsRow base 95 3 v n ys)
    (A : Option Addr) (m c : Nat) (xs : List Value) (hx : a.eval x = .slice A m c) (hC : Cs w A xs) (hm : xs.length = m * 3) (hone : ∀ u ∈ xs, u.oneCell' = true) (hA : A = none → c = 0)
    (h63 : n + m ≤ 1000000) (hbase : base ≤ w.heap.size)
    (h : ∀ v' w', w'.ownsRow base 95 3 v' (n + m) (ys ++ xs) → w.grownBy w' v.ownBlock → K (a.put o.dst v') w') : o.wp Tryd.prog a w K Q := by
  obtain ⟨i0, hi, hz0, hz1, hz2⟩ := info_parts infoRf
  cases A with
  | none =>
    have h1 := hC.1 rfl
    have h2 := hA rfl
    subst h1; subst h2
    have h3 : m = 0 := by simp at hm; omega
    subst h3
    have hrun := run_append_owned_none (P := Tryd.prog) (w := w) base 50 o.type 95 i0 3 Tryd.underlying50 hi v n ys hown
    unfold Oper.wp
    simp [execOp, ho, resolve, invoke, builtin, hs, hx, hrun, Result.andThen]
    exact h v w (by simpa using hown) ⟨rfl, rfl, rfl, Nat.le_refl _, fun _ _ _ => rfl⟩
  | some ad =>
    refine wp_append_own w s x 50 ho base 95 i0 _ 3 48 Tryd.underlying50 hi hz0 hz1 hz2 rfl (by decide) v n ys hs hown ad m c xs hx hm (hC.2 ad rfl) hone (by unfold maxLen; omega) (by omega) hbase ?_
    intro v' w' h2 h3 _
    exact h v' w' h2 h3
theorem step_append_rf {w : World} {ops : Array Oper} {o : Oper} {a : Act} {K : Act → World → Prop} {Q : Exit → Act → World → Prop} {E : Prop} (hgd : o.guard = none) (s x : Operand)
    (ho : o.op = .call { callee := .builtin .append, args := #[s, x], argTypes := #[50, 50] })
    (base : Nat) (v : Value) (n : Nat) (ys : List Value) (hs : a.eval s = v) (hown : w.ownsRow base 95 3 v n ys)
    (A : Option Addr) (m c : Nat) (xs : List Value) (hx : a.eval x = .slice A m c) (hC : Cs w A xs) (hm : xs.length = m * 3) (hone : ∀ u ∈ xs, u.oneCell' = true) (hA : A = none → c = 0)
    (h63 : n + m ≤ 1000000) (hbase : base ≤ w.heap.size)
    (h : ∀ v' w', w'.ownsRow base 95 3 v' (n + m) (ys ++ xs) → w.grownBy w' v.ownBlock → K (a.put o.dst v') w') : if Region.wanted o (yielded ops a.tmps) = true then Oper.wp Tryd.prog o a w K Q else E := by
  have hw : Region.wanted o (yielded ops a.tmps) = true := by simp [Region.wanted, hgd]
  rw [if_pos hw]
  exact wp_append_rf s x ho base v n ys hs hown A m c xs hx hC hm hone hA h63 hbase h
/-- What the reference's functions leave. -/
structure RWent (w w' : World) (R : Nat) (v : Value) (rs : List RV) (v' : Value) (rs' : List RV) (most fuse : Int) (dn : Bool) : Prop where
  at_ : RefAt w' R v' rs' most fuse dn
  kept : Kept (fun k => k ∈ rfoot R v rs) w w'
  feet : ∀ k ∈ rfoot R v' rs', k ∈ rfoot R v rs ∨ w.heap.size ≤ k
/-- A new slice of files is laid into the reference's field. -/
theorem rows_end {w w3 : World} {R : Nat} {v v' : Value} {rs rs' : List RV} {most fuse : Int} {dn : Bool} (h : RefAt w R v rs most fuse dn) (hk : Kept (fun _ => False) w w3)
    (hown : w3.ownsRow w.heap.size 95 3 v' rs'.length (cellsR rs')) (hat : ∀ r ∈ rs', r.At w ∧ r.val.ownBlock ≠ some R) (hfew : rs'.length ≤ 1000) :
    RefAt (w3.setCell ⟨R, 0, none⟩ v') R v' rs' most fuse dn ∧ Kept (fun k => k = R) w (w3.setCell ⟨R, 0, none⟩ v') ∧ ∀ k ∈ rfoot R v' rs', k = R ∨ w.heap.size ≤ k ∨ ∃ r ∈ rs', r.val.ownBlock = some k := by
  have hR : R < w.heap.size := h.lt R (by simp [rfoot])
  have hge := own_ge hown
  have hkR : Kept (fun k => k = R) w3 (w3.setCell ⟨R, 0, none⟩ v') := kF w3 R 0 v'
  have hkk : Kept (fun k => k = R) w (w3.setCell ⟨R, 0, none⟩ v') := (hk.mono fun _ _ h => h.elim).trans' hkR
  have hno : v'.ownBlock ≠ some R := fun e => by have := hge R e; omega
  refine ⟨⟨RB.s0 (show RB w3 R v most fuse dn from hk.heap h.rb (by simp)) v', own_base (own_kept hown hkR fun k e e2 => hno (by rw [← e2]; exact e)), fun r hr => ⟨own_kept (hat r hr).1.own hkk fun k e e2 => (hat r hr).2 (by rw [← e2]; exact e), (hat r hr).1.safe, (hat r hr).1.len⟩, hno, fun r hr k e => ⟨fun e2 => (hat r hr).2 (by rw [← e2]; exact e), fun e2 => ?_⟩, hfew, h.most0, h.fuse0⟩, hkk, fun k hk => ?_⟩
  · have h1 := own_lt' (hat r hr).1.own k e
    have h2 := hge k e2
    omega
  · simp only [rfoot, List.mem_cons, List.mem_append, List.mem_flatMap, Option.mem_toList] at hk
    rcases hk with hk | hk | hk
    · exact .inl hk
    · exact .inr (.inl (hge k hk))
    · exact .inr (.inr hk)
theorem own_one {w : World} {base : Nat} {e : TypeId} {size n : Nat} {v : Value} {xs : List Value} (h : w.ownsRow base e size v n xs) : v.oneCell' = true := by
  rcases h.2 with ⟨hv, _⟩ | ⟨g, cap, cur, hv, _⟩
  · rw [hv]; rfl
  · rw [hv]; rfl
theorem add_add0 (g a j : Nat) : ((⟨g, 0, none⟩ : Addr).add a).add j = (⟨g, 0, none⟩ : Addr).add (a + j) := by
  unfold Addr.add
  by_cases h1 : a = 0
  · subst h1; simp
  · by_cases h2 : j = 0
    · subst h2; simp [h1]
    · rw [if_neg h1, if_neg h2, if_neg (by omega)]; simp
theorem own_slice {w : World} {base : Nat} {e : TypeId} {size n : Nat} {v : Value} {xs : List Value} (h : w.ownsRow base e size v n xs) : ∃ A c, v = .slice A n c := by
  rcases h.2 with ⟨hv, h0⟩ | ⟨g, cap, cur, hv, _⟩
  · exact ⟨none, 0, by rw [hv, h0]⟩
  · exact ⟨_, _, hv⟩
/-- The slice's first and last files, as slices. -/
theorem RefAt.pre {w : World} {R : Nat} {A : Option Addr} {l c : Nat} {r1 r2 : List RV} {most fuse : Int} {dn : Bool} (h : RefAt w R (.slice A l c) (r1 ++ r2) most fuse dn) : Cs w A (cellsR r1) := by
  refine ⟨fun e => ?_, fun ad e j u hu => ?_⟩
  · subst e
    have : (r1 ++ r2).length = 0 := by
      rcases h.row.2 with ⟨_, h0⟩ | ⟨g, _, _, hv, _⟩
      · exact h0
      · cases hv
    have : r1 = [] := by cases r1 with | nil => rfl | cons _ _ => simp at this
    rw [this]; rfl
  · subst e
    rcases h.row.2 with ⟨hv, _⟩ | ⟨g, cap, cur, hv, _⟩
    · cases hv
    · injection hv with e1
      injection e1 with e1
      subst e1
      refine h.row.cells (g := g) rfl j u ?_
      rw [cellsR_append, List.getElem?_append_left (List.getElem?_eq_some_iff.1 hu).1]
      exact hu
theorem RefAt.post {w : World} {R : Nat} {A : Option Addr} {l c : Nat} {r1 r2 : List RV} {most fuse : Int} {dn : Bool} (h : RefAt w R (.slice A l c) (r1 ++ r2) most fuse dn) (k : Nat) (hk : k = r1.length) (hc : (r1 ++ r2).length ≤ c) :
    Cs w (if c = k then A else A.map (·.add (k * 3))) (cellsR r2) := by
  subst hk
  by_cases he : c = r1.length
  · have : r2 = [] := List.eq_nil_of_length_eq_zero (by rw [List.length_append] at hc; omega)
    subst this
    exact ⟨fun _ => rfl, fun _ _ j u hu => by simp [cellsR] at hu⟩
  · rw [if_neg he]
    refine ⟨fun e => ?_, fun ad e j u hu => ?_⟩
    · have hn : A = none := by cases A with | none => rfl | some _ => simp at e
      subst hn
      have : (r1 ++ r2).length = 0 := by
        rcases h.row.2 with ⟨_, h0⟩ | ⟨g, _, _, hv, _⟩
        · exact h0
        · cases hv
      have : r2 = [] := List.eq_nil_of_length_eq_zero (by rw [List.length_append] at this; omega)
      rw [this]; rfl
    · rcases h.row.2 with ⟨hv, _⟩ | ⟨g, cap, cur, hv, _⟩
      · injection hv with e1; subst e1; cases e
      · injection hv with e1
        subst e1
        simp only [Option.map_some, Option.some.injEq] at e
        subst e
        have := h.row.cells (g := g) rfl (r1.length * 3 + j) u (by rw [cellsR_append, List.getElem?_append_right (by rw [cellsR_len]; omega), cellsR_len, show r1.length * 3 + j - 3 * r1.length = j by omega]; exact hu)
        rwa [add_add0 g (r1.length * 3) j]
set_option maxRecDepth 100000 in
set_option maxHeartbeats 4000000 in
theorem rcut_any (w : World) (R : Nat) (v : Value) (r1 r2 : List RV) (r : RV) (most fuse : Int) (dn : Bool) (h : RefAt w R v (r1 ++ r :: r2) most fuse dn) :
    Calls Tryd.prog 86 #[.pointer (some ⟨R, 0, none⟩), .int .i64 r1.length] w fun e w' => e = .returned (.tuple #[]) ∧ ∃ v', RWent w w' R v (r1 ++ r :: r2) v' (r1 ++ r2) most fuse dn := by
  obtain ⟨A, c, hv, hf⟩ := h.form
  have H := Lib.hid h
  have HCap := Lib.hid hf.cap
  have h0 := h.rb.c0
  have f0 := h.rb.fz 0
  have hfew := h.few
  obtain ⟨n, hn⟩ : ∃ n, n = (r1 ++ r :: r2).length := ⟨_, rfl⟩
  obtain ⟨k, hk⟩ : ∃ k, k = r1.length := ⟨_, rfl⟩
  obtain ⟨m, hm⟩ : ∃ m, m = r2.length := ⟨_, rfl⟩
  have hnk : n = k + 1 + m := by rw [hn, hk, hm]; simp; omega
  rw [← hn] at hv
  have hcap : n ≤ c := by rw [hn]; exact hf.cap
  rw [← hn] at hfew
  have hAc : A = none → c = 0 := fun e => (hf.none_ e).2
  have hP : Hid (∀ W, Kept (fun _ => False) w W → Cs W A (cellsR r1)) := Lib.hid fun W hW => by
    have h2 := h
    rw [hv] at h2
    exact h2.pre.kept hW (by simp)
  have hQ : Hid (∀ W, Kept (fun _ => False) w W → Cs W (if c = k + 1 then A else A.map (·.add ((k + 1) * 3))) (cellsR r2)) := Lib.hid fun W hW => by
    have h2 : RefAt w R (.slice A n c) ((r1 ++ [r]) ++ r2) most fuse dn := by rw [← hv]; simpa using h
    have := (h2.post (k + 1) (by simp [hk]) (by have := hf.cap; simpa using this)).kept hW (by simp)
    simpa using this
  have hone1 : Hid (∀ u ∈ cellsR r1, u.oneCell' = true) := Lib.hid (cellsR_one _ fun q hq => own_one (h.at_ q (by simp [hq])).own)
  have hone2 : Hid (∀ u ∈ cellsR r2, u.oneCell' = true) := Lib.hid (cellsR_one _ fun q hq => own_one (h.at_ q (by simp [hq])).own)
  have hs1 : ∀ W, (Instr.slice 50 v none (some (.int .i64 k)) none).run Tryd.prog W = .ok (.slice A k c) W := fun W => by rw [hv]; exact slice_to3 W A n k c (by omega)
  have hs2 : ∀ W, (Instr.slice 50 (.slice A n c) (some (.int .i64 ((k : Int) + 1))) none none).run Tryd.prog W = .ok (.slice (if c = k + 1 then A else A.map (·.add ((k + 1) * 3))) m (c - (k + 1))) W := fun W => by
    have := slice_from3 W A n (k + 1) c (by omega) (by omega)
    rw [show n - (k + 1) = m by omega] at this
    exact this
  have hA2 : Hid ((if c = k + 1 then A else A.map (·.add ((k + 1) * 3))) = none → c - (k + 1) = 0) := Lib.hid fun e => by
    have : A = none := by
      split at e
      · exact e
      · cases A with | none => rfl | some _ => simp at e
    have := hAc this
    omega
  have Hk := Lib.hid hk
  have Hm := Lib.hid hm
  have hk9 : (k : Int) ≤ 1000 := by omega
  have hk8 : (k : Int) < (n : Int) := by omega
  have hnc : (n : Int) ≤ (c : Int) := by omega
  have hnk9 : (n : Int) = (k : Int) + 1 + (m : Int) := by omega
  have hwr : IntKind.i64.wrap ((k : Int) + 1) = (k : Int) + 1 := by simp only [IntKind.wrap, IntKind.signed, IntKind.bits]; first | omega | (simp; omega)
  have Hfew := Lib.hid hfew
  have HAc := Lib.hid hAc
  obtain ⟨A2, hA2e⟩ : ∃ A2, A2 = (if c = k + 1 then A else A.map (·.add ((k + 1) * 3))) := ⟨_, rfl⟩
  rw [← hA2e] at hQ hA2
  have hs2' : ∀ W, (Instr.slice 50 v (some (.int .i64 ((k : Int) + 1))) none none).run Tryd.prog W = .ok (.slice A2 m (c - (k + 1))) W := fun W => by rw [hA2e, hv]; exact hs2 W
  rw [← hk]
  have HC0 : Hid (∀ W, Kept (fun _ => False) w W → W.cell? ⟨R, 0, none⟩ = some v ∧ W.frozen? ⟨R, 0, none⟩ = false) := Lib.hid fun W hW => by
    exact ⟨RB.c0 (show RB W R v most fuse dn from hW.heap h.rb (by simp)), RB.fz (show RB W R v most fuse dn from hW.heap h.rb (by simp)) 0⟩
  clear h hf hv hn hk hm hnk hcap hfew hAc hs2 hA2e
  go_enter Tryd.func86, Tryd.ntmps86
  go_wp2_with fail
  go_region_law (first
    | (refine step_append_rf rfl _ _ rfl w.heap.size _ _ _ rfl HV1.out A2 m (c - (k + 1)) (cellsR r2) rfl (hQ.out _ HK1.out) (by rw [cellsR_len, Hm.out]; omega) hone2.out hA2.out (by have := Hfew.out; omega) HK1.out.size ?_; intro v2 w2 hown hgrow; obtain ⟨A9, c9, rfl⟩ := own_slice hown; have HV2 := Lib.hid hown; have HK2 := Lib.hid (HK1.out.grown hgrow (fun k e hk => by have := own_ge HV1.out k e; omega)); obtain ⟨hc2, hf2⟩ := HC0.out _ HK2.out; clear hown hgrow)
    | (refine step_append_rf rfl _ _ rfl w.heap.size _ 0 [] rfl (World.ownsRow_nil _ _ _ _) A k c (cellsR r1) rfl (hP.out _ ((Kept.refl (fun _ => False) w).drew)) (by rw [cellsR_len, Hk.out]; omega) hone1.out HAc.out (by omega) (Nat.le_refl _) ?_; intro v1 w1 hown hgrow; have HV1 := Lib.hid hown; have HK1 := Lib.hid (((Kept.refl (fun _ => False) w).drew).grown hgrow (fun k e hk => by simp [Value.ownBlock, Act.eval] at e)); obtain ⟨hc1, hf1⟩ := HC0.out _ HK1.out; clear hown hgrow))
  all_goals
    go_end0
    have hE := rows_end (rs' := r1 ++ r2) H.out HK2.out (by have := HV2.out; rw [List.nil_append, ← cellsR_append] at this; rwa [show (r1 ++ r2).length = 0 + k + m by rw [List.length_append, Hk.out, Hm.out]; omega]) (fun q hq => by
      have hq' : q ∈ r1 ++ r :: r2 := by rcases List.mem_append.1 hq with h | h <;> simp [h]
      exact ⟨H.out.at_ q hq', fun e => (H.out.sep q hq' R e).1 rfl⟩) (by rw [List.length_append, ← Hk.out, ← Hm.out]; have := Hfew.out; omega)
    simp only [Nat.zero_add] at hE
    refine ⟨rfl, _, hE.1, hE.2.1.mono fun k _ e => by subst e; simp [rfoot], fun k hk => ?_⟩
    rcases hE.2.2 k hk with h | h | ⟨q, hq, h⟩
    · exact .inl (by subst h; simp [rfoot])
    · exact .inr h
    · exact .inl (mem_rfoot (r := q) (by rcases List.mem_append.1 hq with h | h <;> simp [h]) h)
end Go.Proofs.YthkncfdgfbnchaaDoor
end
