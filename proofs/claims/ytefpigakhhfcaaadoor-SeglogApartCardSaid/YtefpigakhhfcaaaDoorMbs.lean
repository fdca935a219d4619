import Derived.Test.YtefpigakhhfcaaaDoorMbn
import Derived.Test.YtefpigakhhfcaaaDoorMbr
/-! A log that is small: what Append wants, from few numbers; Append, told anew. -/
section
set_option linter.unusedVariables false
set_option linter.unusedSimpArgs false
namespace Go.Proofs.YtefpigakhhfcaaaDoor
open Go.RowKit

/-- Few records, all of them short. -/
structure Sml (G : List Prt) (N : Nat) : Prop where
  cont : Cont G
  nx : nxtP G ≤ N
  len : ∀ p ∈ G, ∀ b ∈ p.2, b.length ≤ 2000
theorem Cont.few : ∀ {G : List Prt}, Cont G → G.length ≤ nxtP G + 1
  | [], _ => by simp
  | [p], _ => by simp
  | p :: q :: r, h => by
    have h1 := Cont.few (Cont.tail h)
    have h2 : p.1 < q.1 := Cont.lt h q (by simp)
    have h3 : nxtP (p :: q :: r) = nxtP (q :: r) := by rw [nxtP_cons, if_neg (by simp)]
    have h4 : ∀ {G : List Prt}, Cont G → G ≠ [] → G.length + fstP G ≤ nxtP G + 1 := by
      intro G
      induction G with
      | nil => intro _ h; exact absurd rfl h
      | cons a l ih =>
        intro hc _
        cases l with
        | nil => simp [fstP, nxtP, endP]; omega
        | cons b l =>
          have h5 := ih (Cont.tail hc) (by simp)
          have h6 : a.1 < b.1 := Cont.lt hc b (by simp)
          have h7 : nxtP (a :: b :: l) = nxtP (b :: l) := by rw [nxtP_cons, if_neg (by simp)]
          have e1 : fstP (a :: b :: l) = a.1 := rfl
          have e2 : fstP (b :: l) = b.1 := rfl
          simp only [List.length_cons] at h5 ⊢
          omega
    have h5 := h4 h (by simp)
    simp only [List.length_cons] at h5 ⊢
    omega
theorem Sml.mono {G : List Prt} {N M : Nat} (h : Sml G N) (hm : N ≤ M) : Sml G M := ⟨h.cont, Nat.le_trans h.nx hm, h.len⟩
theorem Sml.nil : Sml [] 0 := ⟨trivial, by simp [nxtP], fun p hp => by cases hp⟩
theorem Sml.few {G : List Prt} {N : Nat} (h : Sml G N) : G.length ≤ N + 1 := Nat.le_trans h.cont.few (by have := h.nx; omega)
theorem Sml.one {G : List Prt} {N : Nat} (h : Sml G N) {p : Prt} (hp : p ∈ G) : p.1 ≤ N ∧ p.2.length ≤ N ∧ szP p ≤ 2016 * N := by
  have h1 := Cont.lt_end h.cont p hp
  have h2 := h.nx
  have h3 : szP p ≤ 2016 * p.2.length := by
    rw [szP_eq]
    have h4 := h.len p hp
    generalize p.2 = l at h4
    induction l with
    | nil => simp [sumR]
    | cons b l ih =>
      have h5 := ih fun x hx => h4 x (List.mem_cons_of_mem _ hx)
      have h6 := h4 b List.mem_cons_self
      have e : sumR (b :: l) = 16 + b.length + sumR l := by simp [sumR]
      rw [e, List.length_cons]
      omega
  unfold endP at h1
  refine ⟨by omega, by omega, Nat.le_trans h3 (Nat.mul_le_mul_left _ (by omega))⟩
theorem Sml.short {G : List Prt} {N : Nat} (h : Sml G N) : ShortR G := fun p hp b hb => Nat.le_trans (h.len p hp b hb) (by decide)
theorem logPut_nxt {G : List Prt} (b : List UInt8) (h : Cont G) : nxtP (logPut G b) = nxtP G + 1 := by
  rw [nxtP_eq (logPut_cont b h), nxtP_eq h, logPut_fst, logPut_all]; simp; omega
theorem logPut_mem {G : List Prt} {b : List UInt8} {P : List UInt8 → Prop} (h : ∀ p ∈ G, ∀ x ∈ p.2, P x) (hb : P b) : ∀ p ∈ logPut G b, ∀ x ∈ p.2, P x := by
  rcases List.eq_nil_or_concat G with rfl | ⟨a, q, rfl⟩
  · intro p hp x hx
    rw [logPut_nil, List.mem_singleton] at hp
    subst hp
    rw [List.mem_singleton.1 hx]; exact hb
  · rw [List.concat_eq_append] at h ⊢
    rw [logPut_snoc]
    split
    · intro p hp x hx
      rcases List.mem_append.1 hp with hp | hp
      · exact h p hp x hx
      · rw [List.mem_singleton.1 hp] at hx
        rw [List.mem_singleton.1 hx]; exact hb
    · intro p hp x hx
      rcases List.mem_append.1 hp with hp | hp
      · exact h p (List.mem_append_left _ hp) x hx
      · rw [List.mem_singleton.1 hp] at hx
        rcases List.mem_append.1 hx with hx | hx
        · exact h q (by simp) x hx
        · rw [List.mem_singleton.1 hx]; exact hb
theorem Sml.put {G : List Prt} {N : Nat} {b : List UInt8} (h : Sml G N) (hb : b.length ≤ 2000) : Sml (logPut G b) (N + 1) :=
  ⟨logPut_cont b h.cont, by rw [logPut_nxt b h.cont]; have := h.nx; omega, logPut_mem h.len hb⟩
/-- A file's safe part is a part of it. -/
theorem lk_safe {w : World} {F M : Nat} {ps : List PF} {clock : Nat} {lim arm : Int} {dn : Bool} {s : ByteArray} {v : FV} (h : FilesAt w F M ps clock lim arm dn) (hl : lk ps s = some v) : v.2 ≤ v.1.length := by
  obtain ⟨l1, p, l2, rfl, rfl, rfl, -⟩ := lk_split hl
  exact (h.at_ p (by simp)).safe
/-- A log with its files, nothing lying behind its records. -/
structure LS (w : World) (T F M : Nat) (nm : ByteArray) (ps : List PF) (clock : Nat) (lim arm : Int) (dn : Bool) (v : Value) (ms : List PM) (dead : Bool) (sf N : Nat) : Prop where
  lg : LG w T F M nm ps clock lim arm dn v ms dead
  ld : LogD (lk ps) nm (prts ms) [] sf
  sm : Sml (prts ms) N
section
variable {w w' : World} {T F M : Nat} {nm : ByteArray} {ps : List PF} {clock : Nat} {lim arm : Int} {dn : Bool} {v : Value} {ms : List PM} {dead : Bool} {sf N : Nat}
theorem LS.stay (h : LS w T F M nm ps clock lim arm dn v ms dead sf N) (hk : Kept (fun _ => False) w w') : LS w' T F M nm ps clock lim arm dn v ms dead sf N := ⟨h.lg.stay hk, h.ld, h.sm⟩
theorem LS.sfl (h : LS w T F M nm ps clock lim arm dn v ms dead sf N) (hN : N ≤ 10000) : ∀ a q, prts ms = a ++ [q] → sf ≤ szP q := fun a q e => by
  have hc := h.sm.cont
  have hl := h.ld q.1 (by have := (h.sm.one (p := q) (by rw [e]; simp)).1; omega)
  rw [e] at hc hl
  rw [lookP_last hc] at hl
  have := lk_safe h.lg.f hl
  simpa [szP, frsP] using this
theorem LS.pre {A : Option Addr} {n c : Nat} {xs : List UInt8} (h : LS w T F M nm ps clock lim arm dn v ms dead sf N) (hN : N ≤ 10000) (hnm : nm.size ≤ 82) (hf : fullB nm = true) (hu : usedL ps ≤ 4194304) (hx : ∀ W, Kept (LFoot T F M ps v ms) w W → Bs W A xs) (hn : n = xs.length) (hA : A = none → c = 0) (hs : xs.length ≤ 2000) :
    LAppPre w T F M nm ps v ms sf A n c xs := by
  have hm : ∀ p ∈ ms, p.prt ∈ prts ms := fun p hp => List.mem_map_of_mem hp
  refine ⟨h.sm.cont, h.ld, h.sfl hN, ?_, fun p hp => ?_, fun p hp => ?_, by have := h.sm.nx; omega, by omega, fun u => full_file nm u hf hnm, hu, hx, hn, hA, by omega⟩
  · have := h.sm.few; rw [prts, List.length_map] at this; omega
  · have := (h.sm.one (hm p hp)).2.1
    have e : p.prt.2.length = p.rs.length := by simp [PM.prt]
    omega
  · have := (h.sm.one (hm p hp)).2.2
    omega
/-- Append into a log that is open, on files that are not hit, where there is room. -/
def LApp0 (w : World) (T F M : Nat) (nm : ByteArray) (ps : List PF) (lim : Int) (v : Value) (ms : List PM) (N : Nat) (xs : List UInt8) (e : Ending) (w' : World) : Prop :=
  ∃ ps' c' v' ms' sf', e = .returned (.tuple #[.int .u64 ((nxtP (prts ms) : Nat) : Int), .int .i64 0]) ∧ LS w' T F M nm ps' c' lim 0 false v' ms' false sf' (N + 1) ∧ prts ms' = logPut (prts ms) xs ∧ MvL w T F M ps v ms ps' v' ms' w' ∧ (∀ q ∈ ms, BBs w' q.A q.rs) ∧ (∀ s, (∀ u, s ≠ fileB nm u) → lk ps' s = lk ps s) ∧ usedL ps' ≤ usedL ps + (16 + xs.length)
theorem slAppend_0 {A : Option Addr} {n c : Nat} {xs : List UInt8} (h : LS w T F M nm ps clock lim 0 false v ms false sf N) (hN : N ≤ 10000) (hnm : nm.size ≤ 82) (hf : fullB nm = true) (hu : usedL ps + (16 + xs.length) ≤ 4194304) (hlim : ((usedL ps + (16 + xs.length) : Nat) : Int) ≤ lim) (hx : ∀ W, Kept (LFoot T F M ps v ms) w W → Bs W A xs) (hn : n = xs.length) (hA : A = none → c = 0) (hs : xs.length ≤ 2000) :
    Calls Tryd.prog 10 #[.pointer (some ⟨T, 0, none⟩), .slice A n c] w (LApp0 w T F M nm ps lim v ms N xs) := by
  refine (slAppend_any w T F M nm ps clock lim 0 v ms sf A n c xs h.lg (h.pre hN hnm hf (by omega) hx hn hA hs)).mono ?_
  rintro e w' ⟨er, ps', c', v', ms', arm', dn', rfl, hl, hm, hb, ho, ha, hu', h1 | h1 | h1⟩
  · obtain ⟨rfl, rfl, h2, h3⟩ := h1
    have ha0 := ha rfl
    subst ha0
    exact ⟨ps', c', v', ms', _, rfl, ⟨hl, by rw [h2]; exact h3, by rw [h2]; exact h.sm.put hs⟩, h2, hm, hb, ho, hu'⟩
  · obtain ⟨rfl, -, h2, -⟩ := h1
    omega
  · obtain ⟨rfl, h2, -⟩ := h1
    exact absurd rfl h2
end
end Go.Proofs.YtefpigakhhfcaaaDoor
end

/-! seglog: how many bytes all segments have; Segments. -/
section
set_option linter.unusedVariables false
set_option linter.unusedSimpArgs false
namespace Go.Proofs.YtefpigakhhfcaaaDoor
open Go.RowKit

/-- How many bytes all segments have. -/
def sumSz (G : List Prt) : Nat := (G.map szP).sum
theorem sumSz_snoc (G : List Prt) (p : Prt) : sumSz (G ++ [p]) = sumSz G + szP p := by simp [sumSz]
theorem sumSz_cons (G : List Prt) (p : Prt) : sumSz (p :: G) = szP p + sumSz G := by simp [sumSz]
theorem sumSz_take (G : List Prt) (k : Nat) (p : Prt) (h : G[k]? = some p) : sumSz (G.take (k + 1)) = sumSz (G.take k) + szP p := by
  rw [List.take_add_one, h, Option.toList_some, sumSz_snoc]
theorem sumSz_le (G : List Prt) (k : Nat) : sumSz (G.take k) ≤ sumSz G := by
  have : sumSz G = sumSz (G.take k) + sumSz (G.drop k) := by
    conv => lhs; rw [← List.take_append_drop k G]
    simp only [sumSz, List.map_append, List.sum_append]
  omega
theorem sumSz_all {G : List Prt} : sumSz G = sumR (allR G) := by
  induction G with
  | nil => rfl
  | cons p G ih =>
    rw [sumSz_cons, ih, szP_eq]
    simp [sumR, allR]
theorem Sml.sum {G : List Prt} {N : Nat} (h : Sml G N) : sumSz G ≤ 2016 * N := by
  have h1 : ∀ l : List (List UInt8), (∀ b ∈ l, b.length ≤ 2000) → sumR l ≤ 2016 * l.length := by
    intro l hl
    induction l with
    | nil => simp [sumR]
    | cons b l ih =>
      have h5 := ih fun x hx => hl x (List.mem_cons_of_mem _ hx)
      have h6 := hl b List.mem_cons_self
      have e : sumR (b :: l) = 16 + b.length + sumR l := by simp [sumR]
      rw [e, List.length_cons]; omega
  have h2 := h1 (allR G) fun b hb => by
    obtain ⟨p, hp, hb⟩ := List.mem_flatMap.1 hb
    exact h.len p hp b hb
  have h3 := nxtP_eq h.cont
  have h4 := h.nx
  rw [sumSz_all]
  exact Nat.le_trans h2 (Nat.mul_le_mul_left _ (by omega))
theorem sumSz_drop (G : List Prt) (k : Nat) : sumSz (G.drop k) ≤ sumSz G := by
  have : sumSz G = sumSz (G.take k) + sumSz (G.drop k) := by
    conv => lhs; rw [← List.take_append_drop k G]
    simp only [sumSz, List.map_append, List.sum_append]
  omega
set_option maxRecDepth 100000 in
set_option maxHeartbeats 4000000 in
theorem slSize_any (w : World) (T F : Nat) (nm : ByteArray) (v : Value) (ms : List PM) (dead : Bool) (h : LB w T F nm v dead) (hr : RowM w v ms) (hl : ms.length ≤ 100000) (hs : sumSz (prts ms) ≤ 1000000000) :
    Calls Tryd.prog 39 #[.pointer (some ⟨T, 0, none⟩)] w fun e w' => e = .returned (.int .i64 ((sumSz (prts ms) : Nat) : Int)) ∧ Kept (fun _ => False) w w' := by
  obtain ⟨A, c, rfl⟩ := own_slice hr
  obtain ⟨n, hn⟩ : ∃ n, n = ms.length := ⟨_, rfl⟩
  rw [← hn] at h
  have c2 := h.c2
  have Hn := Lib.hid hn
  have HRow := Lib.hid hr
  have Hs := Lib.hid hs
  have hn9 : n ≤ 100000 := by omega
  clear h hr hn hs hl
  go_enter Tryd.func39, Tryd.ntmps39
  go_wp2_with fail
  go_loopw [3, 11] (fun s i wr => ∃ k : Nat, k ≤ n ∧ i = .int .i64 (k : Nat) ∧ s = .int .i64 ((sumSz ((prts ms).take k) : Nat) : Int) ∧ Hid (Kept (fun _ => False) w wr)) (fun _ i _ => n - (intOf i).toNat)
  case atStart => exact ⟨0, by omega, rfl, rfl, Lib.hid (Kept.refl _ _)⟩
  case round =>
    obtain ⟨k, hk, rfl, rfl, hK⟩ := hrel
    by_cases hkl : k < n
    · have hk9 : (k : Int) < (n : Int) := by omega
      obtain ⟨p, hp⟩ : ∃ p, ms[k]? = some p := ⟨_, List.getElem?_eq_getElem (by have := Hn.out; omega)⟩
      obtain ⟨G, c', hvf, -, hcn, -, -, hcell⟩ := HRow.out.form (fun e => by have := Hn.out; rw [e] at this; simp at this; omega)
      rw [← Hn.out] at hvf hcn
      simp only [Value.slice.injEq, true_and] at hvf
      obtain ⟨rfl, rfl⟩ := hvf
      obtain ⟨x0, x1, x2⟩ := hcell k p hp
      have y0 := hK.out.cell x0 (by simp)
      have y1 := hK.out.cell x1 (by simp)
      have y2 := hK.out.cell x2 (by simp)
      unfold PM.rv at y1
      obtain ⟨s0, hs0⟩ : ∃ s0, s0 = sumSz ((prts ms).take k) := ⟨_, rfl⟩
      obtain ⟨sz, hsz⟩ : ∃ sz, sz = szP p.prt := ⟨_, rfl⟩
      have hpp : (prts ms)[k]? = some p.prt := by simp [prts, hp]
      have hsum := sumSz_take _ _ _ hpp
      have hle := sumSz_le (prts ms) (k + 1)
      rw [← hs0, ← hsz] at hsum
      rw [← hsz] at y2
      rw [← hs0]
      have hb : s0 + sz ≤ 1000000000 := by have := Hs.out; omega
      have Hsum : Hid (sumSz ((prts ms).take (k + 1)) = s0 + sz) := Lib.hid hsum
      obtain ⟨f, hf⟩ : ∃ f, f = p.first := ⟨_, rfl⟩
      obtain ⟨lr, hlr⟩ : ∃ lr, lr = p.rs.length := ⟨_, rfl⟩
      rw [← hf] at y0
      rw [← hlr] at y1
      clear hs0 hsz hpp hsum hle hcell x0 x1 x2 hp hf hlr
      have hK2 : Hid (Kept (fun _ => False) w (wr.alloc (.cells #[.int .u64 (f : Nat), .slice p.A lr p.c, .int .i64 (sz : Nat)] 71))) := Lib.hid (hK.out.alloc _)
      go_wp2
      go_roundw
      case rel => exact ⟨k + 1, by omega, by go_num, by rw [Hsum.out]; go_num, hK2⟩
      case measure => simp [intOf]; omega
    · have hk9 : ¬ (k : Int) < (n : Int) := by omega
      have HT : Hid ((prts ms).take k = prts ms) := Lib.hid (List.take_of_length_le (by rw [prts, List.length_map]; have := Hn.out; omega))
      go_wp2
      go_ret
      exact ⟨by rw [HT.out]; rfl, hK.out⟩

/-! ### Segments -/
def cellsS (G : List Prt) : List Value := G.flatMap fun p => [.int .u64 (p.1 : Nat), .int .i64 (szP p : Nat)]
theorem cellsS_len (G : List Prt) : (cellsS G).length = G.length * 2 := by
  induction G with
  | nil => rfl
  | cons p G ih => rw [show cellsS (p :: G) = [.int .u64 (p.1 : Nat), .int .i64 (szP p : Nat)] ++ cellsS G from rfl, List.length_append, ih, List.length_cons]; simp; omega
theorem cellsS_snoc (G : List Prt) (p : Prt) : cellsS (G ++ [p]) = cellsS G ++ [.int .u64 (p.1 : Nat), .int .i64 (szP p : Nat)] := by simp [cellsS]
theorem cellsS_at (G : List Prt) (k : Nat) (p : Prt) (h : G[k]? = some p) : (cellsS G)[k * 2]? = some (.int .u64 (p.1 : Nat)) ∧ (cellsS G)[k * 2 + 1]? = some (.int .i64 (szP p : Nat)) := by
  induction G generalizing k with
  | nil => simp at h
  | cons q G ih =>
    have e : cellsS (q :: G) = [.int .u64 (q.1 : Nat), .int .i64 (szP q : Nat)] ++ cellsS G := rfl
    cases k with
    | zero => simp at h; subst h; simp [e]
    | succ k =>
      have h2 := ih k (by simpa using h)
      rw [e]
      refine ⟨?_, ?_⟩
      · rw [List.getElem?_append_right (by simp; omega)]
        have : (k + 1) * 2 - [Value.int .u64 (q.1 : Nat), .int .i64 (szP q : Nat)].length = k * 2 := by simp; omega
        rw [this]; exact h2.1
      · rw [List.getElem?_append_right (by simp; omega)]
        have : (k + 1) * 2 + 1 - [Value.int .u64 (q.1 : Nat), .int .i64 (szP q : Nat)].length = k * 2 + 1 := by simp; omega
        rw [this]; exact h2.2
theorem infoSg : (Tryd.prog.info? 53).map (fun i => (i.zero, i.size, i.bytes)) = some (some (.agg #[.int .u64 0, .int .i64 0]), 2, 16) := by kernel_rfl
theorem elemSg : ElemT 47 53 2 16 := ElemT.of Tryd.underlying47 infoSg (by kernel_rfl) (by decide) (by decide)
/-- A row of segments, as they are told. -/
def SegAt (w : World) (b : Nat) (v : Value) (G : List Prt) : Prop := w.ownsRow b 53 2 v G.length (cellsS G)
set_option maxRecDepth 100000 in
set_option maxHeartbeats 4000000 in
theorem slSegments_any (w : World) (T F : Nat) (nm : ByteArray) (v : Value) (ms : List PM) (dead : Bool) (h : LB w T F nm v dead) (hr : RowM w v ms) (hl : ms.length ≤ 100000) :
    Calls Tryd.prog 16 #[.pointer (some ⟨T, 0, none⟩)] w fun e w' => ∃ u, e = .returned u ∧ SegAt w' w.heap.size u (prts ms) ∧ Kept (fun _ => False) w w' := by
  obtain ⟨A, c, rfl⟩ := own_slice hr
  obtain ⟨n, hn⟩ : ∃ n, n = ms.length := ⟨_, rfl⟩
  rw [← hn] at h
  have c2 := h.c2
  have Hn := Lib.hid hn
  have HRow := Lib.hid hr
  have hn9 : n ≤ 100000 := by omega
  clear h hr hn hl
  go_enter Tryd.func16, Tryd.ntmps16
  go_wp2_with fail
  go_loopw [3, 13] (fun s i wr => ∃ (k : Nat) (A1 : Option Addr) (c1 : Nat), k ≤ n ∧ i = .int .i64 (k : Nat) ∧ s = .slice A1 k c1 ∧ Hid (wr.ownsRow w.heap.size 53 2 (.slice A1 k c1) k (cellsS ((prts ms).take k))) ∧ Hid (Kept (fun _ => False) w wr)) (fun _ i _ => n - (intOf i).toNat)
  case' atStart => exact ⟨0, none, 0, by omega, rfl, rfl, Lib.hid (World.ownsRow_nil _ _ _ _), Lib.hid (Kept.refl _ _)⟩
  obtain ⟨k, A1, c1, hk, rfl, rfl, hRx, hK⟩ := hrel
  by_cases hkl : k < n
  · have hk9 : (k : Int) < (n : Int) := by omega
    obtain ⟨p, hp⟩ : ∃ p, ms[k]? = some p := ⟨_, List.getElem?_eq_getElem (by have := Hn.out; omega)⟩
    obtain ⟨G, c', hvf, -, hcn, -, -, hcell⟩ := HRow.out.form (fun e => by have := Hn.out; rw [e] at this; simp at this; omega)
    rw [← Hn.out] at hvf hcn
    simp only [Value.slice.injEq, true_and] at hvf
    obtain ⟨rfl, rfl⟩ := hvf
    obtain ⟨x0, x1, x2⟩ := hcell k p hp
    have y0 := hK.out.cell x0 (by simp)
    have y1 := hK.out.cell x1 (by simp)
    have y2 := hK.out.cell x2 (by simp)
    unfold PM.rv at y1
    obtain ⟨sz, hsz⟩ : ∃ sz, sz = szP p.prt := ⟨_, rfl⟩
    rw [← hsz] at y2
    obtain ⟨f, hf⟩ : ∃ f, f = p.first := ⟨_, rfl⟩
    obtain ⟨lr, hlr⟩ : ∃ lr, lr = p.rs.length := ⟨_, rfl⟩
    rw [← hf] at y0
    rw [← hlr] at y1
    have Hcs : Hid (cellsS ((prts ms).take k) ++ [.int .u64 (f : Nat), .int .i64 (sz : Nat)] = cellsS ((prts ms).take (k + 1))) := Lib.hid (by
      have hpp : (prts ms)[k]? = some p.prt := by simp [prts, hp]
      rw [List.take_add_one, hpp, Option.toList_some, cellsS_snoc, hsz, hf]; rfl)
    clear hsz hcell x0 x1 x2 hp hf hlr
    go_upto_region 6 with fail
    obtain ⟨B2, hB2⟩ : ∃ B2, B2 = wr.heap.size := ⟨_, rfl⟩
    obtain ⟨V2, hV2⟩ : ∃ V2, V2 = wr.alloc (.cells #[.int .u64 (f : Nat), .slice p.A lr p.c, .int .i64 (sz : Nat)] 71) := ⟨_, rfl⟩
    have hkv : Kept (fun _ => False) wr V2 := by rw [hV2]; exact (Kept.refl _ wr).alloc _
    have hb2 : V2.heap[B2]? = some (.cells #[.int .u64 (f : Nat), .slice p.A lr p.c, .int .i64 (sz : Nat)] 71 (0, 0)) := by rw [hV2, hB2]; exact heap_alloc_new wr _
    have z0 : V2.cell? ⟨B2, 0, none⟩ = some (.int .u64 (f : Nat)) := by simp [World.cell?, hb2]
    have z2 : V2.cell? ⟨B2, 2, none⟩ = some (.int .i64 (sz : Nat)) := by simp [World.cell?, hb2]
    have HKv := Lib.hid (hK.out.trans' hkv)
    have HRv := Lib.hid (own_kept hRx.out hkv (by simp))
    rw [← hB2, ← hV2]
    clear hB2 hV2 hkv hb2 y0 y1 y2
    go_wp2_with (at_builtin; refine wpList_append_e elemSg rfl _ _ rfl w.heap.size (.slice A1 k c1) k (cellsS ((prts ms).take k)) rfl (own_kept HRv.out ((Kept.refl (fun _ => False) V2).alloc _) (by simp)) _ 1 1 [.int .u64 (f : Nat), .int .i64 (sz : Nat)] rfl (cs_new _ _ _) rfl (by simp [Value.oneCell']) (fun e => by cases e) (by omega) (Nat.le_trans HKv.out.size ((Kept.refl (fun _ => False) V2).alloc _).size) ?_; intro v3 w3' hown hgrow; obtain ⟨A3, c3, rfl⟩ := own_slice hown; have HO3 := Lib.hid hown; have HK3 := Lib.hid (HKv.out.trans ((((Kept.refl (fun _ => False) V2).alloc (.cells #[.int .u64 (f : Nat), .int .i64 (sz : Nat)] 53)).mono fun _ _ e => e.elim).trans' hgrow.kept) fun q hq e => by have h1 := own_ge HRv.out q e; omega); clear hown hgrow)
    go_roundw
    case rel => exact ⟨k + 1, A3, c3, by omega, by go_num, rfl, Lib.hid (by rw [← Hcs.out]; exact HO3.out), HK3⟩
    case measure => simp [intOf]; omega
  · have hk9 : ¬ (k : Int) < (n : Int) := by omega
    have HT : Hid ((prts ms).take k = prts ms ∧ k = (prts ms).length) := Lib.hid ⟨List.take_of_length_le (by rw [prts, List.length_map]; have := Hn.out; omega), by rw [prts, List.length_map]; have := Hn.out; omega⟩
    go_wp2
    go_ret
    refine ⟨_, rfl, ?_, hK.out⟩
    have h1 := hRx.out
    rw [HT.out.1] at h1
    unfold SegAt
    rw [← HT.out.2]; exact h1
end Go.Proofs.YtefpigakhhfcaaaDoor
end
