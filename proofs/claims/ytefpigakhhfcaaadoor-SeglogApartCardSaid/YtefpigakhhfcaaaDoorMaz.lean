import Derived.Test.YtefpigakhhfcaaaDoorMay
import Derived.Test.YtefpigakhhfcaaaDoorMax
import Derived.Test.YtefpigakhhfcaaaDoorMap
/-! slices.Values over slices of bytes; regions that draw, in a round, with calls behind their reads; files with a second file beside. -/
section
set_option linter.unusedVariables false
set_option linter.unusedSimpArgs false
namespace Go.Proofs.YtefpigakhhfcaaaDoor
open Go.RowKit Go.Sort

/-- Slices of bytes whose cells can be read. -/
def BC (w : World) (A : Option Addr) (ps : List BV) : Prop := ∀ (j : Nat) p, ps[j]? = some p → ∃ ad, A = some ad ∧ w.cell? (ad.add j) = some (.slice p.A p.b.length p.c)
theorem BBs.cells {w : World} {A : Option Addr} {ps : List BV} (h : BBs w A ps) : BC w A ps := fun j p hp => by
  obtain ⟨ad, h1, h2, _⟩ := h j p hp
  exact ⟨ad, h1, h2⟩
theorem BC.same {w w' : World} {A : Option Addr} {ps : List BV} (h : BC w A ps) (hk : ∀ k, rdOf A k → w'.heap[k]? = w.heap[k]?) : BC w' A ps := by
  intro j p hp
  obtain ⟨ad, rfl, hc⟩ := h j p hp
  have hb : w'.heap[(ad.add j).block]? = w.heap[(ad.add j).block]? := by rw [add_block]; exact hk _ ⟨ad, rfl, rfl⟩
  exact ⟨ad, rfl, (World.cell?_of_block hb).trans hc⟩
def encBB (p : BV) : Array Value := #[.slice p.A p.b.length p.c]
theorem wpIn_still_calls {P : Program} {n r f id : Nat} {Q : Exit → Act → World → Prop} {a : Act} {w : World} {l : List Oper} (k : Nat) (hm : P.follows .mixedOrders = true) (hB : Region.lexTailB .any l.toArray k = true) (hp : (l.all fun o => plainB o.op || callsB f o.op) = true)
    (he : ∀ args w, (callFunc f args).run P w = .ok (.enter f args) w) (hQ : ¬ LetsOut Q)
    (h : wpStill P l.toArray w.drew (fun a' => wpList P l.toArray Q (l.drop k) a' w.drew) (l.take k) a) : (Code.region id l.toArray true).wpIn (Fence.wide.inRound r) n P Q a w := wpIn_region_calls hm hp he hQ (wpAny_still_tail k hB h)
/-- A second file beside. -/
def TwoK (ps : List PF) (nk : ByteArray) (d : List UInt8) (made : Bool) (nt : ByteArray) (e : List UInt8) : Prop := ∃ pk pt, ps = pk ++ [pt] ∧ OneK pk nk d made ∧ pt.name = nt ∧ pt.b = e
theorem TwoK.used {ps : List PF} {nk nt : ByteArray} {d e : List UInt8} {m : Bool} (h : TwoK ps nk d m nt e) : usedL ps = d.length + e.length := by
  obtain ⟨pk, pt, rfl, h1, -, rfl⟩ := h
  rw [used_mid pk [] pt, List.append_nil, h1.used]
theorem OneK.not {ps : List PF} {nk nt : ByteArray} {d : List UInt8} {m : Bool} (h : OneK ps nk d m) (hne : nk ≠ nt) : ∀ q ∈ ps, q.name ≠ nt := by
  intro q hq e
  rcases h with ⟨rfl, -, -⟩ | ⟨p, rfl, hp, -, -⟩
  · cases hq
  · rw [List.mem_singleton.1 hq, hp] at e
    exact hne e
set_option maxHeartbeats 1000000 in
theorem tnew (W : World) (F M : Nat) (ps : List PF) (clock : Nat) (lim : Int) (nk nt : ByteArray) (d : List UInt8) (made : Bool) (h : FilesAt W F M ps clock lim 0 false) (ho : OneK ps nk d made) (hne : nk ≠ nt) (hs : nt.size ≤ 140737488355328) (hf : fullB nt = true) (hfit : (d.length : Int) ≤ lim) :
    Calls Tryd.prog 34 #[.pointer (some ⟨F, 0, none⟩), .string nt, .slice none 0 0] W fun e w' => e = .returned (.int .i64 0) ∧ ∃ ps' clock', Went W F M ps ps' clock' lim 0 false w' ∧ TwoK ps' nk d made nt [] := by
  have hl := h.lim0.2
  refine (append_new_none nt W F M lim 0 ps clock (ho.not hne) hs hf h (by rw [ho.used]; omega)).mono ?_
  rintro e w' ⟨B, v, rfl, hw⟩
  exact ⟨rfl, _, _, hw, ps, _, rfl, ho, rfl, rfl⟩
set_option maxHeartbeats 1000000 in
theorem tappend (W : World) (F M : Nat) (ps : List PF) (clock : Nat) (lim : Int) (nk nt : ByteArray) (d b : List UInt8) (made : Bool) (A : Option Addr) (n c : Nat) (xs : List UInt8) (h : FilesAt W F M ps clock lim 0 false) (ho : TwoK ps nk d made nt b) (hs : nt.size ≤ 140737488355328) (hf : fullB nt = true)
    (hx : Bs W A xs) (hn : n = xs.length) (hA : A = none → c = 0) (hfit : (xs.length : Int) + ((d.length : Int) + (b.length : Int)) ≤ lim) :
    Calls Tryd.prog 34 #[.pointer (some ⟨F, 0, none⟩), .string nt, .slice A n c] W fun e w' => e = .returned (.int .i64 0) ∧ ∃ ps' clock', Went W F M ps ps' clock' lim 0 false w' ∧ TwoK ps' nk d made nt (b ++ xs) := by
  have hl := h.lim0.2
  have hu := ho.used
  obtain ⟨pk, pt, rfl, h1, rfl, rfl⟩ := ho
  refine (append_old A n c W F M lim 0 pk [] pt clock xs hs hf h (by rw [hu]; omega) hx hn hA (by unfold Fits; rw [hu]; right; omega)).mono ?_
  rintro e w' ⟨u, rfl, hw⟩
  exact ⟨rfl, _, _, hw, pk, _, rfl, h1, rfl, rfl⟩
set_option maxHeartbeats 1000000 in
theorem tsync (W : World) (F M : Nat) (ps : List PF) (clock : Nat) (lim : Int) (nk nt : ByteArray) (d b : List UInt8) (made : Bool) (h : FilesAt W F M ps clock lim 0 false) (ho : TwoK ps nk d made nt b) :
    Calls Tryd.prog 42 #[.pointer (some ⟨F, 0, none⟩), .string nt] W fun e w' => e = .returned (.int .i64 0) ∧ ∃ ps', Went W F M ps ps' clock lim 0 false w' ∧ TwoK ps' nk d made nt b := by
  obtain ⟨pk, pt, rfl, h1, rfl, rfl⟩ := ho
  refine (sync_ok W F M lim 0 pk [] pt clock (by decide) h).mono ?_
  rintro e w' ⟨rfl, hw⟩
  exact ⟨rfl, _, hw, pk, _, rfl, h1, rfl, rfl⟩
theorem Went.off {S : Nat → Prop} {w W W' : World} {F M : Nat} {ps ps' : List PF} {c : Nat} {lim arm : Int} {dn : Bool} (h : Went w F M ps ps' c lim arm dn W) (hk : Kept S W W') (hS : ∀ k, S k → k ∉ foot F M ps' ∧ w.heap.size ≤ k) : Went w F M ps ps' c lim arm dn W' :=
  ⟨h.at_.kept hk fun k hm e => (hS k e).1 hm, h.kept.trans hk fun i hi e => by have := (hS i e).2; omega, h.feet⟩
theorem FilesAt.went0 {w : World} {F M : Nat} {ps : List PF} {c : Nat} {lim arm : Int} {dn : Bool} (h : FilesAt w F M ps c lim arm dn) : Went w F M ps ps c lim arm dn w := ⟨h, Kept.refl _ _, fun k hk => .inl hk⟩
/-- Frames, one behind the other. -/
def frsL : Nat → List (List UInt8) → List UInt8
  | _, [] => []
  | n, b :: r => frameB n b ++ frsL (n + 1) r
theorem frsL_snoc (n : Nat) (l : List (List UInt8)) (b : List UInt8) : frsL n (l ++ [b]) = frsL n l ++ frameB (n + l.length) b := by
  induction l generalizing n with
  | nil => simp [frsL]
  | cons x l ih =>
    simp only [List.cons_append, frsL, ih (n + 1), List.length_cons, List.append_assoc]
    rw [show n + 1 + l.length = n + (l.length + 1) by omega]
theorem frsL_len (n : Nat) (parts : List (List PV)) : (frsL n (parts.map bytesP)).length = frLen parts := by
  induction parts generalizing n with
  | nil => rfl
  | cons l parts ih =>
    have e : frLen (l :: parts) = (bytesP l).length + 16 + frLen parts := by simp [frLen]
    rw [List.map_cons, frsL, List.length_append, frameB_len, ih, e]
theorem fr_pre (parts : List (List PV)) (k : Nat) : frLen (parts.take k) ≤ frLen parts := by
  have e : frLen parts = frLen (parts.take k) + frLen (parts.drop k) := by
    unfold frLen
    rw [← List.sum_append, ← List.map_append, List.take_append_drop]
  omega
end Go.Proofs.YtefpigakhhfcaaaDoor
end

/-! compact.copied. -/
section
set_option linter.unusedVariables false
set_option linter.unusedSimpArgs false
namespace Go.Proofs.YtefpigakhhfcaaaDoor
open Go.RowKit Go.Sort
attribute [local go_sem] Oper.semAt_some

/-- Three results that lie in cells. -/
theorem results_cell3 {P : Program} {fn : Func} {p q r : Tmp} {t1 t2 t3 : TypeId} (h : fn.results = #[.cell p t1, .cell q t2, .cell r t3]) (h1 : ∀ w, (isAgg t1).run P w = .ok false w) (h2 : ∀ w, (isAgg t2).run P w = .ok false w) (h3 : ∀ w, (isAgg t3).run P w = .ok false w)
    {tmps : Array Value} {a b c : Addr} (hp : tmps.getD p undef = .pointer (some a)) (hq : tmps.getD q undef = .pointer (some b)) (hr : tmps.getD r undef = .pointer (some c)) {w : World} {u v x : Value} (ha : w.cell? a = some u) (hb : w.cell? b = some v) (hc : w.cell? c = some x) :
    (results fn tmps).run P w = .ok (.tuple #[u, v, x]) w := by
  have hp' : tmps[p]?.getD undef = .pointer (some a) := by simpa using hp
  have hq' : tmps[q]?.getD undef = .pointer (some b) := by simpa using hq
  have hr' : tmps[r]?.getD undef = .pointer (some c) := by simpa using hr
  simp [results, h, hp', hq', hr', asAddr, loadVar, h1, h2, h3, go_sem, ha, hb, hc]
/-- The cells that the last region of copied reads. -/
def CpS (B0 B4 B5 T F : Nat) (nm : ByteArray) (n s : Nat) (W : World) : Prop := W.cell? ⟨B0, 0, none⟩ = some (.pointer (some ⟨T, 0, none⟩)) ∧ W.cell? ⟨T, 0, none⟩ = some (.pointer (some ⟨F, 0, none⟩)) ∧ W.cell? ⟨T, 1, none⟩ = some (.string nm) ∧ W.cell? ⟨B4, 0, none⟩ = some (.int .u64 (n : Nat)) ∧ W.cell? ⟨B5, 0, none⟩ = some (.int .i64 (s : Nat))
theorem CpS.off {B0 B4 B5 T F i : Nat} {nm : ByteArray} {n s : Nat} {W W' : World} (h : CpS B0 B4 B5 T F nm n s W) (hk : Kept (fun k => k = i) W W') (h0 : B0 ≠ i) (h4 : B4 ≠ i) (h5 : B5 ≠ i) (hT : T ≠ i) : CpS B0 B4 B5 T F nm n s W' :=
  ⟨hk.cell h.1 h0, hk.cell h.2.1 hT, hk.cell h.2.2.1 hT, hk.cell h.2.2.2.1 h4, hk.cell h.2.2.2.2 h5⟩
end Go.Proofs.YtefpigakhhfcaaaDoor
end

/-! compact.Compact, where there is room. -/
section
set_option linter.unusedVariables false
set_option linter.unusedSimpArgs false
namespace Go.Proofs.YtefpigakhhfcaaaDoor
open Go.RowKit

end Go.Proofs.YtefpigakhhfcaaaDoor
end

/-! courantlaw23.CompactShort, plain: what the rounds hold. -/
section
set_option linter.unusedVariables false
set_option linter.unusedSimpArgs false
namespace Go.Proofs.YtefpigakhhfcaaaDoor
open Go.RowKit

def wtC (c : Core) : Nat := c.1.size + c.2.1.length + 10
theorem put1_len (L : List Core) (c : Core) : (put1 L c).length ≤ L.length + 1 := by
  unfold put1
  simp only [List.length_append, List.length_take, List.length_drop]
  have h1 : (if c.2.2 then [] else [(c.1, c.2.1, false)] : List Core).length ≤ 1 := by split <;> simp
  have h2 : coreAt L c.1 ≤ (if coreIs L c.1 then coreAt L c.1 + 1 else coreAt L c.1) := by split <;> omega
  omega
theorem putC_len (L M : List Core) : (putC L M).length ≤ L.length + M.length := by
  unfold putC
  induction M generalizing L with
  | nil => simp
  | cons m M ih =>
    rw [List.foldl_cons]
    have h1 := ih (put1 L m)
    have h2 := put1_len L m
    rw [List.length_cons]; omega
theorem put1_wt {n : Nat} {L : List Core} {c : Core} (hL : ∀ x ∈ L, wtC x ≤ n) (hc : wtC c ≤ n) : ∀ x ∈ put1 L c, wtC x ≤ n := by
  intro x hx
  unfold put1 at hx
  rcases List.mem_append.1 hx with hx | hx
  · rcases List.mem_append.1 hx with hx | hx
    · exact hL x (List.mem_of_mem_take hx)
    · split at hx
      · cases hx
      · rw [List.mem_singleton.1 hx]; exact hc
  · exact hL x (List.mem_of_mem_drop hx)
theorem putC_wt {n : Nat} {L M : List Core} (hL : ∀ x ∈ L, wtC x ≤ n) (hM : ∀ x ∈ M, wtC x ≤ n) : ∀ x ∈ putC L M, wtC x ≤ n := by
  unfold putC
  induction M generalizing L with
  | nil => exact hL
  | cons m M ih =>
    rw [List.foldl_cons]
    exact ih (put1_wt hL (hM m List.mem_cons_self)) fun x hx => hM x (List.mem_cons_of_mem _ hx)
theorem wt_core {n : Nat} {ps : List PV} : (∀ p ∈ ps, wt p ≤ n) ↔ ∀ x ∈ ps.map PV.core, wtC x ≤ n := by
  constructor
  · intro h x hx
    obtain ⟨p, hp, rfl⟩ := List.mem_map.1 hx
    exact h p hp
  · intro h p hp
    exact h _ (List.mem_map_of_mem hp)
theorem pair_le {p : PV} (h : wt p ≤ 3000) : (pairB p).length ≤ wt p := by
  unfold wt at h ⊢
  have h1 := (zig2 (n := (kb p.key).length) (by rw [kb_size]; omega)).2
  have h2 := (zig2 (n := p.b.length) (by omega)).2
  have h3 := kb_size p.key
  unfold pairB
  split
  · simp only [List.length_append, textB_len, List.length_cons, List.length_nil]; omega
  · simp only [List.length_append, textB_len, List.length_cons, List.length_nil]; omega
theorem sum_wt (ps : List PV) (h : (ps.map wt).sum ≤ 3000) : (∀ p ∈ ps, wt p ≤ 3000) ∧ sumP ps ≤ (ps.map wt).sum := by
  induction ps with
  | nil => exact ⟨fun p hp => by simp at hp, by simp [sumP]⟩
  | cons p ps ih =>
    simp only [List.map_cons, List.sum_cons] at h ⊢
    obtain ⟨h1, h2⟩ := ih (by omega)
    have h3 := pair_le (p := p) (by omega)
    have e1 : sumP (p :: ps) = (pairB p).length + sumP ps := by simp [sumP]
    refine ⟨fun q hq => ?_, by rw [e1]; omega⟩
    rcases List.mem_cons.1 hq with rfl | hq
    · omega
    · exact h1 q hq
theorem few_small {ps : List PV} (h : fewP ps = true) : ps.length < 50 ∧ (∀ p ∈ ps, wt p ≤ 3000) ∧ (bytesP ps).length ≤ 3100 := by
  simp only [fewP, Bool.and_eq_true, decide_eq_true_eq] at h
  obtain ⟨h1, h2⟩ := h
  unfold fewN at h2
  rw [List.take_of_length_le (by omega)] at h2
  obtain ⟨h3, h4⟩ := sum_wt ps (by omega)
  have h5 := (zig2 (n := ps.length) (by omega)).2
  refine ⟨h1, h3, ?_⟩
  rw [bytesP_len]; omega
theorem cut_fit {qs : List PV} {parts : List (List PV)} (h : Cut qs parts) (hl : qs.length ≤ 150) (hw : ∀ q ∈ qs, wt q ≤ 3000) : frLen parts ≤ 460000 := by
  have h1 := fr_le parts fun l hl' => by have := len_flat hl'; rw [h.flat] at this; omega
  have h2 := cut_len h
  have h3 := sum_small hw
  rw [h.flat] at h1
  omega
/-- What a call on the store may write. -/
def Zs (W : World) (T F M : Nat) (ps : List PF) (k : Nat) : Prop := k = T ∨ k ∈ foot F M ps ∨ W.heap.size ≤ k
theorem PsL.next {Z Z' : Nat → Prop} {w w' : World} {A : Option Addr} {ms : List PV} (h : PsL Z w A ms) (hk : Kept (fun k => Z k) w w') (hZ : ∀ k, Z' k → Z k) : PsL Z' w' A ms := fun W hW => h W (hk.trans' (hW.mono fun k _ e => hZ k e))
theorem PsL.here {Z : Nat → Prop} {w : World} {A : Option Addr} {ms : List PV} (h : PsL Z w A ms) : PsAt w A ms := h w (Kept.refl _ _)
theorem Zs.grow {W W' : World} {T F M : Nat} {ps : List PF} (hs : W.heap.size ≤ W'.heap.size) {k : Nat} (h : Zs W' T F M ps k) : Zs W T F M ps k := h.imp id (·.imp id fun h => Nat.le_trans hs h)
section
variable {w W W' w' : World} {T F M k k' : Nat} {Al : Option Addr} {ms qs : List PV} {ps ps' : List PF} {clock clock' : Nat} {v v' : Value} {next : Nat} {d : List UInt8} {made : Bool}
end
/-- Slices of pairs that came in. -/
structure LV where
  A : Option Addr
  c : Nat
  ps : List PV
def PssAt (w : World) (A : Option Addr) (ls : List LV) : Prop := ∀ (j : Nat) l, ls[j]? = some l → ∃ ad, A = some ad ∧ w.cell? (ad.add j) = some (.slice l.A l.ps.length l.c) ∧ PsAt w l.A l.ps ∧ (∀ p ∈ l.ps, p.Sz) ∧ l.ps.length ≤ 140737488355328
end Go.Proofs.YtefpigakhhfcaaaDoor
end

/-! compact.Store.read. -/
section
set_option linter.unusedVariables false
set_option linter.unusedSimpArgs false
namespace Go.Proofs.YtefpigakhhfcaaaDoor
open Go.RowKit

/-- What frames' pairs come to. -/
def foldP (parts : List (List PV)) : List Core := parts.foldl (fun L l => putC L (l.map PV.core)) []
theorem foldP_snoc (parts : List (List PV)) (l : List PV) : foldP (parts ++ [l]) = putC (foldP parts) (l.map PV.core) := by simp [foldP]
theorem put1_norm (L : List Core) (p : PV) : put1 L (normP p) = put1 L p.core := by
  unfold put1 normP PV.core nb
  cases h : p.gone <;> simp
theorem putC_norm (L : List Core) (ps : List PV) : putC L (ps.map normP) = putC L (ps.map PV.core) := by
  induction ps generalizing L with
  | nil => rfl
  | cons p ps ih =>
    have e1 : ∀ M c, putC L (c :: M) = putC (put1 L c) M := fun M c => rfl
    rw [List.map_cons, List.map_cons, e1, e1, put1_norm, ih]
theorem put1_all {Q : Core → Prop} {L : List Core} {c : Core} (hL : ∀ x ∈ L, Q x) (hc : Q (c.1, c.2.1, false)) : ∀ x ∈ put1 L c, Q x := by
  intro x hx
  unfold put1 at hx
  rcases List.mem_append.1 hx with hx | hx
  · rcases List.mem_append.1 hx with hx | hx
    · exact hL x (List.mem_of_mem_take hx)
    · split at hx
      · cases hx
      · rw [List.mem_singleton.1 hx]; exact hc
  · exact hL x (List.mem_of_mem_drop hx)
theorem putC_all {Q : Core → Prop} {L M : List Core} (hL : ∀ x ∈ L, Q x) (hM : ∀ x ∈ M, Q (x.1, x.2.1, false)) : ∀ x ∈ putC L M, Q x := by
  unfold putC
  induction M generalizing L with
  | nil => exact hL
  | cons m M ih =>
    rw [List.foldl_cons]
    exact ih (put1_all hL (hM m List.mem_cons_self)) fun x hx => hM x (List.mem_cons_of_mem _ hx)
theorem foldP_all {Q : Core → Prop} {parts : List (List PV)} (h : ∀ l ∈ parts, ∀ p ∈ l, Q (p.key, p.b, false)) : ∀ x ∈ foldP parts, Q x := by
  have : ∀ (parts : List (List PV)) (L : List Core), (∀ x ∈ L, Q x) → (∀ l ∈ parts, ∀ p ∈ l, Q (p.key, p.b, false)) → ∀ x ∈ parts.foldl (fun L l => putC L (l.map PV.core)) L, Q x := by
    intro parts
    induction parts with
    | nil => exact fun L hL _ => hL
    | cons l parts ih =>
      intro L hL hp
      rw [List.foldl_cons]
      refine ih _ (putC_all hL fun x hx => ?_) fun m hm => hp m (List.mem_cons_of_mem _ hm)
      obtain ⟨p, hp1, rfl⟩ := List.mem_map.1 hx
      exact hp l List.mem_cons_self p hp1
  exact this parts [] (by simp) h
theorem foldP_len (parts : List (List PV)) : (foldP parts).length ≤ parts.flatten.length := by
  have : ∀ (parts : List (List PV)) (L : List Core), (parts.foldl (fun L l => putC L (l.map PV.core)) L).length ≤ L.length + parts.flatten.length := by
    intro parts
    induction parts with
    | nil => simp
    | cons l parts ih =>
      intro L
      have h1 := ih (putC L (l.map PV.core))
      have h2 := putC_len L (l.map PV.core)
      rw [List.foldl_cons, List.flatten_cons, List.length_append]
      simp only [List.length_map] at h2
      omega
  simpa [foldP] using this parts []
theorem fromB_form (A : Option Addr) (l lo c : Nat) (xs : List UInt8) (hl : l = xs.length) (h1 : lo ≤ l) (hc : l ≤ c) (hA : A = none → c = 0) :
    ∃ A2, (∀ W, (Instr.slice 31 (.slice A l c) (some (.int .i64 lo)) none none).run Tryd.prog W = .ok (.slice A2 (l - lo) (c - lo)) W) ∧ (∀ W, Bs W A xs → Bs W A2 (xs.drop lo)) ∧ (A2 = none → c - lo = 0) := by
  refine ⟨if c = lo then A else A.map (·.add (lo * 1)), fun W => slice_fromB W A l lo c h1 hc, fun W h => ?_, fun e => ?_⟩
  · by_cases h0 : c = lo
    · rw [if_pos h0, List.drop_of_length_le (by omega)]; exact Bs.nil _ _
    · rw [if_neg h0]; exact bs_drop h lo
  · by_cases h0 : c = lo
    · omega
    · rw [if_neg h0] at e
      cases A with
      | none => have := hA rfl; omega
      | some a => cases e
section
variable {w W W' : World} {T F : Nat} {nm : ByteArray} {v v' : Value} {qs qs' : List PV} {next size next' size' : Nat} {dead : Bool}
end
theorem frsL_append (n : Nat) (a b : List (List UInt8)) : frsL n (a ++ b) = frsL n a ++ frsL (n + a.length) b := by
  induction a generalizing n with
  | nil => simp [frsL]
  | cons x a ih =>
    simp only [List.cons_append, frsL, ih (n + 1), List.length_cons, List.append_assoc]
    rw [show n + 1 + a.length = n + (a.length + 1) by omega]
theorem frs_at {parts : List (List PV)} {tail : List UInt8} {j : Nat} {l : List PV} (h : parts[j]? = some l) :
    (frsL 0 (parts.map bytesP) ++ tail).drop (frsL 0 ((parts.take j).map bytesP)).length = frameB j (bytesP l) ++ (frsL (j + 1) ((parts.drop (j + 1)).map bytesP) ++ tail) ∧ (frsL 0 ((parts.take (j + 1)).map bytesP)).length = (frsL 0 ((parts.take j).map bytesP)).length + (16 + (bytesP l).length) := by
  have hj := (List.getElem?_eq_some_iff.1 h).1
  have e1 : parts.map bytesP = (parts.take j).map bytesP ++ (bytesP l :: (parts.drop (j + 1)).map bytesP) := by
    conv => lhs; rw [← List.take_append_drop j parts, List.map_append]
    rw [List.drop_eq_getElem_cons hj, List.map_cons, (List.getElem?_eq_some_iff.1 h).2]
  have e2 : ((parts.take j).map bytesP).length = j := by rw [List.length_map, List.length_take]; omega
  constructor
  · rw [e1, frsL_append, e2, Nat.zero_add, List.append_assoc, List.drop_left]
    simp [frsL]
  · rw [List.take_add_one, h, Option.toList_some, List.map_append, List.map_cons, List.map_nil, frsL_snoc, e2, List.length_append, frameB_len]
    omega
theorem frs_end (parts : List (List PV)) (tail : List UInt8) : (frsL 0 (parts.map bytesP) ++ tail).drop (frsL 0 ((parts.take parts.length).map bytesP)).length = tail := by
  rw [List.take_length, List.drop_left]
theorem frs_le (parts : List (List PV)) (j : Nat) : (frsL 0 ((parts.take j).map bytesP)).length ≤ (frsL 0 (parts.map bytesP)).length := by
  conv => rhs; rw [← List.take_append_drop j parts, List.map_append, frsL_append, List.length_append]
  omega
def cellNat : Option Value → Nat
  | some (.int _ z) => z.toNat
  | _ => 0
end Go.Proofs.YtefpigakhhfcaaaDoor
end

/-! A store with its files, whatever hits them; compact.Open of files that are there. -/
section
set_option linter.unusedVariables false
set_option linter.unusedSimpArgs false
namespace Go.Proofs.YtefpigakhhfcaaaDoor
open Go.RowKit

/-- What a call on a store may turn. -/
structure Moved (w : World) (T F M : Nat) (ps ps' : List PF) (w' : World) : Prop where
  kept : Kept (fun k => k = T ∨ k ∈ foot F M ps) w w'
  feet : ∀ k ∈ foot F M ps', k ∈ foot F M ps ∨ w.heap.size ≤ k
theorem Moved.refl (w : World) (T F M : Nat) (ps : List PF) : Moved w T F M ps ps w := ⟨Kept.refl _ _, fun k h => .inl h⟩
theorem Moved.trans {w w1 w2 : World} {T F M : Nat} {p1 p2 p3 : List PF} (h : Moved w T F M p1 p2 w1) (k : Moved w1 T F M p2 p3 w2) : Moved w T F M p1 p3 w2 :=
  ⟨h.kept.trans k.kept fun i hi e => by
    rcases e with e | e
    · exact .inl e
    · rcases h.feet i e with e | e
      · exact .inr e
      · omega, fun i hi => by
    rcases k.feet i hi with e | e
    · exact h.feet i e
    · exact .inr (Nat.le_trans h.kept.size e)⟩
theorem Moved.stay {w w1 : World} {T F M : Nat} {ps : List PF} (h : Kept (fun _ => False) w w1) : Moved w T F M ps ps w1 := ⟨h.mono fun _ _ e => e.elim, fun k e => .inl e⟩
theorem Moved.turn {w w1 : World} {T F M : Nat} {ps : List PF} (h : Kept (fun k => k = T) w w1) : Moved w T F M ps ps w1 := ⟨h.mono fun _ _ e => .inl e, fun k e => .inl e⟩
theorem Moved.went {w w1 : World} {T F M : Nat} {ps ps' : List PF} {c : Nat} {l a : Int} {dn : Bool} (h : Went w F M ps ps' c l a dn w1) : Moved w T F M ps ps' w1 := ⟨h.kept.mono fun _ _ e => .inr e, h.feet⟩
section
variable {w w' : World} {T F M : Nat} {nm : ByteArray} {ps ps' : List PF} {clock clock' : Nat} {lim lim' arm arm' : Int} {dn dn' : Bool} {v : Value} {qs : List PV} {next size : Nat} {dead : Bool}
end
/-- A store's file: the frames, and some first bytes of one more. -/
structure KIs (x : Option FV) (parts : List (List PV)) (t : List UInt8) : Prop where
  is : (x = none ∧ parts = [] ∧ t = []) ∨ ∃ sf, x = some (frsL 0 (parts.map bytesP) ++ t, sf)
  tail : ∃ (y : List UInt8) (m : Nat), y.length ≤ 32768 ∧ m < (frameB parts.length y).length ∧ t = (frameB parts.length y).take m
  fit : ∀ l ∈ parts, l.length ≤ 10000 ∧ (bytesP l).length ≤ 32768 ∧ ∀ p ∈ l, p.key.size ≤ 32768 ∧ p.b.length ≤ 32768
  few : parts.length ≤ 1000000
  flat : parts.flatten.length ≤ 300000
/-- What Open leaves there. -/
def openD (d : Disk) (nk nt : ByteArray) (parts : List (List PV)) : Disk :=
  match d nk with
  | none => d.put nt none
  | some v => (d.put nt none).put nk (some (frsL 0 (parts.map bytesP), min v.2 (frsL 0 (parts.map bytesP)).length))
theorem decA0 {arm : Int} (h : arm = 0) : decA arm = 0 := by rw [decA, if_pos h]
end Go.Proofs.YtefpigakhhfcaaaDoor
end
