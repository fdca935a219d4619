import Derived.StillTailTactics
import Derived.Test.YtefpigakhhfcaaaDoorMaa
import Derived.OrdersIn
import Derived.OwnWalkIn
import Derived.Test.YtefpigakhhfcaaaDoorMam
import Derived.Test.YtefpigakhhfcaaaDoorMaf
import Derived.BigFrameIn
import Derived.TacticsInMore
import Derived.Sort.QuietTacIn
import Derived.Sort.BigQuietIn
import Derived.Stop.RegionWithIn
/-! Regions that draw their order inside a round of a range over a function: what holds of them outside a round holds inside, where no operation calls. -/
section
set_option linter.unusedVariables false
set_option linter.unusedSimpArgs false
namespace Go.Proofs.YtefpigakhhfcaaaDoor
/-- Operations that call no function and are no statement of control: they yield a value, or nothing, or halt. -/
def plainB : Op → Bool
  | .nilCheck _ | .move _ | .assign _ | .pick .. | .alloc _ | .box .. | .build .. | .load .. | .store .. | .binOp .. | .unOp .. | .convert .. | .makeFunc .. | .makeMap .. | .makeSlice .. | .slice .. | .fieldAddr .. | .field .. | .indexAddr .. | .index .. | .lookup .. | .mapUpdate .. | .mapEntry .. | .entryStore .. | .extract .. | .range .. | .next .. | .entry .. => true
  | .call { callee := .builtin .len, .. } => true
  | .call { callee := .builtin .append, .. } => true
  | .call { callee := .builtin .min, .. } => true
  | .call { callee := .builtin .max, .. } => true
  | _ => false
def nextB : Next → Bool
  | .value _ | .skip => true
  | _ => false
def resPlain : Result Next → Prop
  | .ok n _ => nextB n = true
  | .halt _ _ => True
theorem plain_bind {α : Type} {P : Program} {w : World} (s : Sem α) (f : α → Next) (hf : ∀ x, nextB (f x) = true) : resPlain (Sem.run P (s.bind fun x => Sem.pure (f x)) w) := by
  rw [Sem.run_bind']
  cases s.run P w
  · exact hf _
  · trivial
theorem halt_plain {P : Program} {w : World} {s : Sem Next} (h : ∀ n w', s.run P w ≠ .ok n w') : resPlain (s.run P w) := by
  cases hr : s.run P w with
  | ok n w' => exact absurd hr (h n w')
  | halt x w' => trivial
theorem nil_plain {P : Program} {w : World} {o : Oper} {ρ : Operand → Value} {x : Operand} (ho : o.op = .nilCheck x) : resPlain ((execOp ρ o).run P w) := by
  unfold execOp
  rw [ho]
  simp only
  split
  · trivial
  · trivial
  · trivial
  · split
    · trivial
    · simp only [bind, Sem.run_bind']
      generalize Sem.run P _ w = r
      cases r with
      | ok a w1 =>
        simp only [Result.andThen]
        generalize Sem.run P _ w1 = r2
        cases r2 with
        | ok b w2 =>
          simp only
          split
          · trivial
          · trivial
        | halt y w2 => trivial
      | halt y w1 => trivial
    · trivial
  · trivial
theorem execOp_plain {P : Program} {o : Oper} {ρ : Operand → Value} {w : World} (h : plainB o.op = true) : resPlain ((execOp ρ o).run P w) := by
  unfold execOp
  cases ho : o.op <;> rw [ho] at h <;> first | (have hn := nil_plain (P := P) (w := w) (ρ := ρ) ho; unfold execOp at hn; rw [ho] at hn; exact hn) | exact (plain_bind _ _ fun _ => rfl) | (show nextB (Next.value _) = true; rfl) | (exfalso; revert h; simp [plainB]; done) | skip
  rename_i c
  obtain ⟨cal, args, tys⟩ := c
  cases cal with
  | value f => simp [plainB] at h
  | invoke r m => simp [plainB] at h
  | builtin b =>
    cases b <;> first | (simp [plainB] at h; done) | skip
    all_goals
      show resPlain (Sem.run P ((resolve ρ _ o.type).bind fun d => invoke d.target d.args) w)
      simp only [resolve, pure, Sem.bind, invoke, builtin]
      exact plain_bind _ _ fun _ => rfl
variable {F : Fence} {n : Nat} {P : Program}
theorem about_plain {o : Oper} {ρ : Operand → Value} {w : World} (h : plainB o.op = true) : o.about P w ρ = none := by
  unfold Oper.about
  cases ho : o.op <;> rw [ho] at h <;> first | rfl | (exfalso; revert h; simp [plainB]; done) | skip
  rename_i c
  obtain ⟨cal, args, tys⟩ := c
  cases cal with
  | value f => simp [plainB] at h
  | invoke r m => simp [plainB] at h
  | builtin b => simp [resolve, Target.leads, pure, Sem.run]
theorem wpIn_of_wp {o : Oper} {a : Act} {w : World} {K : Act → World → Prop} {Q : Exit → Act → World → Prop} (hp : plainB o.op = true) (h : o.wp P a w K Q) : o.wpIn F n P a w K Q := by
  unfold Oper.wpIn
  refine ⟨fun f hf => (by rw [about_plain hp] at hf; cases hf), ?_⟩
  rw [Oper.semAt_eq _ _ _ (fun c hc => by rw [hc] at hp; cases hp)]
  have hr := execOp_plain (P := P) (ρ := a.eval) (w := w) hp
  unfold Oper.wp at h
  generalize (execOp a.eval o).run P w = r at *
  cases r with
  | ok nx w' => cases nx <;> first | (simp [resPlain, nextB] at hr; done) | exact h
  | halt x w' => cases x <;> exact h
theorem wpAnyIn_of_wpAny {md : Region.Mode} {ops : Array Oper} {Q : Exit → Act → World → Prop} (hp : ∀ (i : Nat) (o : Oper), ops[i]? = some o → plainB o.op = true) (hQ : ¬ LetsOut Q) : ∀ (fuel : Nat) (listed : Array Bool) (a : Act) (w : World),
    wpAny P md ops Q fuel listed a w → wpAnyIn F n P md ops Q fuel listed a w
  | 0, _, _, _, h => h
  | fuel + 1, listed, a, w, h => by
    refine ⟨h.1, fun i hi => ?_⟩
    have := h.2 i hi
    unfold wpOp at this
    unfold wpOpIn
    cases ho : ops[i]? with
    | none => rw [ho] at this; exact wpAnyIn_of_wpAny hp hQ fuel _ _ _ this
    | some o =>
      simp only [ho] at this ⊢
      split
      · rename_i hw
        simp only [hw, if_true] at this
        rcases this with this | ⟨_, h2⟩
        · exact Oper.wpIn_mono (fun a w h => wpAnyIn_of_wpAny hp hQ fuel _ a w h) (wpIn_of_wp (hp i o ho) this)
        · exact absurd h2 hQ
      · rename_i hw
        simp only [hw] at this
        exact ⟨fun f hf => (by rw [about_plain (hp i o ho)] at hf; cases hf), wpAnyIn_of_wpAny hp hQ fuel _ _ _ this⟩
/-- The region's own law in that form. -/
theorem wpAny_still_tail {Q : Exit → Act → World → Prop} {a : Act} {w : World} {l : List Oper} (n : Nat) (hB : Region.lexTailB .any l.toArray n = true)
    (h : wpStill P l.toArray { w with drawn := w.drawn + 1 } (fun a' => wpList P l.toArray Q (l.drop n) a' { w with drawn := w.drawn + 1 }) (l.take n) a) :
    wpAny P .any l.toArray Q l.toArray.size (Array.replicate l.toArray.size false) a { w with drawn := w.drawn + 1 } := by
  simp only [Region.lexTailB, Bool.and_eq_true, decide_eq_true_eq] at hB
  obtain ⟨⟨⟨⟨hsel, hn⟩, hs⟩, hc⟩, hlex⟩ := hB
  have hn' : n < l.length := by simpa using hn
  have htl : (l.take n).length = n := by simp; omega
  have hdl : (l.drop n).length = l.toArray.size - n := by simp
  have inv0 : HeadInv .any l.toArray n (Array.replicate l.toArray.size false) :=
    ⟨by simp, fun j oj _ hl => (by rw [getD_replicate_false] at hl; cases hl), fun t _ ht => getD_in (by simpa using ht) (getD_replicate_false _ _)⟩
  have H := wpAnyL_lex (md := .any) (g := l.toArray.size - n) hsel hs hc hn (l.take n) 0 _ a (fun j hj => by
    have hj' : j < n := by rw [htl] at hj; exact hj
    simp [hj']) (by simpa using htl) inv0 (by rw [htl]; exact hlex) h
  have := wpAny_of_head (Q' := Q) (g := l.toArray.size - n) (fun listed a' hL => by
    have := wpAny_of_seq (md := .any) (Q' := Q) (l.drop n) n listed a' { w with drawn := w.drawn + 1 } (fun j => by simp [List.getElem?_drop]) (by rw [hdl]; exact hL.1) hL.2
    rwa [hdl] at this) _ _ _ H
  rw [htl, show n + (l.toArray.size - n) = l.toArray.size by omega] at this
  exact this
/-- A region that draws its order, in a round: reads, then one tail of writes. -/
theorem wpIn_still_tail {id : Nat} {Q : Exit → Act → World → Prop} {a : Act} {w : World} {l : List Oper} (k : Nat) (hm : P.follows .mixedOrders = true) (hB : Region.lexTailB .any l.toArray k = true)
    (hp : (l.all fun o => plainB o.op) = true) (hQ : ¬ LetsOut Q)
    (h : wpStill P l.toArray { w with drawn := w.drawn + 1 } (fun a' => wpList P l.toArray Q (l.drop k) a' { w with drawn := w.drawn + 1 }) (l.take k) a) : (Code.region id l.toArray true).wpIn F n P Q a w :=
  wpIn_region_any hm (wpAnyIn_of_wpAny (fun i o ho => List.all_eq_true.1 hp o (by simpa using List.mem_of_getElem? (by simpa using ho))) hQ _ _ _ _ (wpAny_still_tail k hB h))
/-! ### A region with calls of one function -/
def callsB (f : Nat) : Op → Bool
  | .call { callee := .value (.func g), .. } => g == f
  | _ => false
theorem wpIn_call {l : Nat} {o : Oper} {a : Act} {w : World} {K : Act → World → Prop} {Q : Exit → Act → World → Prop} {f : Nat} (he : ∀ args w, (callFunc f args).run P w = .ok (.enter f args) w) (hp : callsB f o.op = true) (h : o.wp P a w K Q) :
    o.wpIn (Fence.wide.inRound l) n P a w K Q := by
  cases ho : o.op <;> rw [ho] at hp <;> first | (exfalso; revert hp; simp [callsB]; done) | skip
  rename_i c
  obtain ⟨cal, args, tys⟩ := c
  cases cal with
  | builtin b => simp [callsB] at hp
  | invoke r m => simp [callsB] at hp
  | value g =>
    cases g <;> first | (exfalso; revert hp; simp [callsB]; done) | skip
    rename_i g
    have hg : g = f := by simpa [callsB] using hp
    subst hg
    unfold Oper.wpIn
    refine ⟨fun f hf => trivial, ?_⟩
    rw [Oper.semAt_eq _ _ _ (fun c hc => by rw [ho] at hc; cases hc)]
    unfold Oper.wp at h
    have hr : (execOp a.eval o).run P w = .ok (.enter g (args.map a.eval)) w := by
      simp [execOp, ho, resolve, invoke, Act.eval, go_sem, he]
    rw [hr] at h ⊢
    exact ⟨fun e => (by cases e), CallsIn.inRound l (callsIn_wide.2 h)⟩
theorem wpAnyIn_of_calls {l : Nat} {f : Nat} (he : ∀ args w, (callFunc f args).run P w = .ok (.enter f args) w) {md : Region.Mode} {ops : Array Oper} {Q : Exit → Act → World → Prop} (hp : ∀ (i : Nat) (o : Oper), ops[i]? = some o → (plainB o.op || callsB f o.op) = true) (hQ : ¬ LetsOut Q) : ∀ (fuel : Nat) (listed : Array Bool) (a : Act) (w : World),
    wpAny P md ops Q fuel listed a w → wpAnyIn (Fence.wide.inRound l) n P md ops Q fuel listed a w
  | 0, _, _, _, h => h
  | fuel + 1, listed, a, w, h => by
    refine ⟨h.1, fun i hi => ?_⟩
    have := h.2 i hi
    unfold wpOp at this
    unfold wpOpIn
    cases ho : ops[i]? with
    | none => rw [ho] at this; exact wpAnyIn_of_calls he hp hQ fuel _ _ _ this
    | some o =>
      have hpo := hp i o ho
      simp only [ho] at this ⊢
      split
      · rename_i hw
        simp only [hw, if_true] at this
        rcases this with this | ⟨_, h2⟩
        · refine Oper.wpIn_mono (fun a w h => wpAnyIn_of_calls he hp hQ fuel _ a w h) ?_
          rcases Bool.or_eq_true_iff.1 hpo with hpo | hpo
          · exact wpIn_of_wp hpo this
          · exact wpIn_call he hpo this
        · exact absurd h2 hQ
      · rename_i hw
        simp only [hw] at this
        exact ⟨fun f hf => trivial, wpAnyIn_of_calls he hp hQ fuel _ _ _ this⟩
theorem wpIn_region_calls {r f id : Nat} {Q : Exit → Act → World → Prop} {a : Act} {w : World} {l : List Oper} (hm : P.follows .mixedOrders = true) (hp : (l.all fun o => plainB o.op || callsB f o.op) = true)
    (he : ∀ args w, (callFunc f args).run P w = .ok (.enter f args) w) (hQ : ¬ LetsOut Q) (h : wpAny P .any l.toArray Q l.toArray.size (Array.replicate l.toArray.size false) a w.drew) : (Code.region id l.toArray true).wpIn (Fence.wide.inRound r) n P Q a w :=
  wpIn_region_any hm (wpAnyIn_of_calls he (fun i o ho => List.all_eq_true.1 hp o (by simpa using List.mem_of_getElem? (by simpa using ho))) hQ _ _ _ _ h)
theorem wpIn_still_drew {id : Nat} {Q : Exit → Act → World → Prop} {a : Act} {w : World} {l : List Oper} (k : Nat) (hm : P.follows .mixedOrders = true) (hB : Region.lexTailB .any l.toArray k = true)
    (hp : (l.all fun o => plainB o.op) = true) (hQ : ¬ LetsOut Q)
    (h : wpStill P l.toArray w.drew (fun a' => wpList P l.toArray Q (l.drop k) a' w.drew) (l.take k) a) : (Code.region id l.toArray true).wpIn F n P Q a w := wpIn_still_tail k hm hB hp hQ h
end Go.Proofs.YtefpigakhhfcaaaDoor
end

/-! Package files: Crash. -/
section
set_option linter.unusedVariables false
set_option linter.unusedSimpArgs false
namespace Go.Proofs.YtefpigakhhfcaaaDoor
open Go.RowKit Go.Sort

def notDefer : Op → Bool
  | .defer _ => false
  | _ => true
theorem semAt_plain (ro : Option Nat) (ρ : Operand → Value) (o : Oper) (h : notDefer o.op = true) : Oper.semAt ro ρ o = execOp ρ o :=
  Oper.semAt_eq _ _ _ (fun c hc => by rw [hc] at h; cases h)
attribute [local go_sem] Oper.semAt_some
/-- A file has fallen: of what waits in it some first bytes stay. -/
structure Fell (p q : PF) : Prop where
  name : q.name = p.name
  born : q.born = p.born
  some_ : ∃ k, p.safe ≤ k ∧ k ≤ p.b.length ∧ q.b = p.b.take k ∧ q.safe = k
/-- The files while they fall: those whose names have been met have fallen. -/
def Falls (pre : List (List UInt8)) (p q : PF) : Prop := (p.name.data.toList ∉ pre → q = p) ∧ (p.name.data.toList ∈ pre → Fell p q)
def mkB (x : List UInt8) : ByteArray := ⟨x.toArray⟩
def All2 (R : PF → PF → Prop) (ps qs : List PF) : Prop := ps.length = qs.length ∧ ∀ (i : Nat) p q, ps[i]? = some p → qs[i]? = some q → R p q
theorem all2_set {pre : List (List UInt8)} {ps qs : List PF} {i : Nat} {p p' : PF} (h : All2 (Falls pre) ps qs) (hnd : (ps.map PF.name).Nodup) (hp : ps[i]? = some p) (hf : Fell p p') :
    All2 (Falls (pre ++ [p.name.data.toList])) ps (qs.set i p') := by
  have hi : i < ps.length := (List.getElem?_eq_some_iff.1 hp).1
  refine ⟨by simpa using h.1, fun j a b ha hb => ?_⟩
  rw [List.getElem?_set] at hb
  by_cases hij : i = j
  · subst hij
    rw [hp] at ha
    injection ha with ha
    subst ha
    rw [if_pos rfl, if_pos (by have := h.1; omega)] at hb
    injection hb with hb
    subst hb
    exact ⟨fun hno => absurd (by simp) hno, fun _ => hf⟩
  · rw [if_neg hij] at hb
    have hr := h.2 j a b ha hb
    have hne : a.name.data.toList ≠ p.name.data.toList := by
      intro e
      have e2 : a.name = p.name := by
        cases ha' : a.name; cases hp' : p.name
        rw [ha', hp'] at e
        simp only at e
        congr 1
        exact Array.toList_inj.1 e
      have hj : j < ps.length := (List.getElem?_eq_some_iff.1 ha).1
      have h1 : (ps.map PF.name)[i]? = some p.name := by simp [hp]
      have h2 : (ps.map PF.name)[j]? = some p.name := by simp [ha, e2]
      have := (List.getElem?_inj (by simpa using hi) hnd).1 (h1.trans h2.symm)
      exact hij this
    refine ⟨fun hno => hr.1 fun hm => hno (List.mem_append.2 (.inl hm)), fun hm => hr.2 ?_⟩
    rcases List.mem_append.1 hm with hm | hm
    · exact hm
    · exact absurd (by simpa using hm) hne
theorem all2_start (ps : List PF) : All2 (Falls []) ps ps := ⟨rfl, fun i p q hp hq => ⟨fun _ => by rw [hp] at hq; injection hq with hq; exact hq.symm, fun h => by simp at h⟩⟩
structure Mid (w W : World) (F M B0 B1 B2 D : Nat) (ps qs : List PF) (clock : Nat) (lim arm : Int) (pre : List (List UInt8)) (kp : Value) : Prop where
  at_ : FilesAt W F M qs clock lim arm true
  falls : All2 (Falls pre) ps qs
  b0 : Boxed W B0 28 (.pointer (some ⟨F, 0, none⟩))
  b1 : Boxed W B1 46 kp
  b2 : ∃ i : Nat, i ≤ pre.length ∧ Boxed W B2 3 (.int .i64 i)
  kept : Kept (fun k => k ∈ foot F M ps) w W
  feet : ∀ k ∈ foot F M qs, k ∈ foot F M ps ∨ D + 2 ≤ k
theorem Mid.carry {w W W' : World} {F M B0 B1 B2 D : Nat} {ps qs : List PF} {clock : Nat} {lim arm : Int} {pre : List (List UInt8)} {kp : Value} (h : Mid w W F M B0 B1 B2 D ps qs clock lim arm pre kp)
    (hk : Kept (fun k => False ∨ k = D ∨ k = D + 1) W W') (hf : ∀ k ∈ foot F M ps, k < w.heap.size) (hw : w.heap.size ≤ D) (h0 : B0 < D) (h1 : B1 < D) (h2 : B2 < D) : Mid w W' F M B0 B1 B2 D ps qs clock lim arm pre kp := by
  have no : ∀ k, k < D → ¬ (False ∨ k = D ∨ k = D + 1) := by rintro k hk (h | h | h) <;> first | exact h.elim | omega
  refine ⟨h.at_.kept hk fun k hm => ?_, h.falls, hk.heap h.b0 (no _ h0), hk.heap h.b1 (no _ h1), ?_, h.kept.trans hk fun i hi hm => ?_, h.feet⟩
  · rcases h.feet k hm with hm | hm
    · exact no k (by have := hf k hm; omega)
    · rintro (h | h | h) <;> first | exact h.elim | omega
  · obtain ⟨i, hi, hb⟩ := h.b2
    exact ⟨i, hi, hk.heap hb (no _ h2)⟩
  · exact absurd hm (no i (by omega))
/-- The file whose turn it is. -/
theorem turn {pre post : List (List UInt8)} {x : List UInt8} {ps qs : List PF} (hxs : sortN ps = pre ++ x :: post) (hnd : (ps.map PF.name).Nodup) (h : All2 (Falls pre) ps qs) :
    ∃ i p l1 l2, ps[i]? = some p ∧ qs = l1 ++ p :: l2 ∧ l1.length = i ∧ p.name.data.toList = x ∧ (⟨x.toArray⟩ : ByteArray) = p.name := by
  have hmem : x ∈ namesL ps := (sortN_perm ps).mem_iff.1 (by rw [hxs]; simp)
  obtain ⟨p, hp, rfl⟩ := List.mem_map.1 hmem
  obtain ⟨i, hi⟩ := List.getElem?_of_mem hp
  have hndN : (namesL ps).Nodup := by
    unfold namesL
    rw [show (ps.map fun p => p.name.data.toList) = (ps.map PF.name).map fun s => s.data.toList by rw [List.map_map]; rfl]
    refine List.Pairwise.map _ (fun a b hab e => hab ?_) hnd
    cases a; cases b
    simp only at e
    congr 1
    exact Array.toList_inj.1 e
  have hnd2 : (sortN ps).Nodup := (sortN_perm ps).nodup_iff.2 hndN
  have hno : p.name.data.toList ∉ pre := by
    rw [hxs, List.nodup_append] at hnd2
    exact fun hm => hnd2.2.2 _ hm _ (List.mem_cons_self ..) rfl
  have hil : i < qs.length := by rw [← h.1]; exact (List.getElem?_eq_some_iff.1 hi).1
  have hq : qs[i]? = some p := by
    have h1 := List.getElem?_eq_getElem hil
    rw [h1, (h.2 i p _ hi h1).1 hno]
  refine ⟨i, p, qs.take i, qs.drop (i + 1), hi, ?_, by rw [List.length_take]; omega, rfl, ?_⟩
  · have := List.getElem_cons_drop hil
    rw [(List.getElem?_eq_some_iff.1 hq).2] at this
    rw [this, List.take_append_drop]
  · cases p.name; simp
/-- A round's end. -/
theorem round_step {w W W' : World} {F M b D i : Nat} {ps l1 l2 : List PF} {p p' : PF} {clock : Nat} {lim arm : Int} {pre : List (List UInt8)} {kp : Value} {rd : Nat → Prop}
    (hM : Mid w W F M b (b + 1) (b + 1 + 1) D ps (l1 ++ p :: l2) clock lim arm pre kp) (hb : b = w.heap.size) (hD : b + 3 ≤ D) (hlt : ∀ k ∈ foot F M ps, k < w.heap.size) (hi : ps[i]? = some p) (hli : l1.length = i) (hnd : (ps.map PF.name).Nodup)
    (hf : Fell p p') (h2 : FilesAt W' F M (l1 ++ p' :: l2) clock lim arm true) (hk : Kept (fun k => k ∈ p.blocks ∨ k = b + 1 + 1) W W') (hfe : ∀ k ∈ p'.blocks, k ∈ p.blocks ∨ W.heap.size ≤ k) (hsz : D + 2 ≤ W.heap.size)
    (hb2 : ∃ j : Nat, j ≤ pre.length + 1 ∧ Boxed W' (b + 1 + 1) 3 (.int .i64 j)) (hrd : ∀ k, rd k → b + 3 ≤ k ∧ k < D) :
    (W.heap.size ≤ W'.heap.size ∧ ∀ k, (rd k ∨ k = D ∨ k = D + 1) → W'.heap[k]? = W.heap[k]?) ∧ ∃ qs, Mid w W' F M b (b + 1) (b + 1 + 1) D ps qs clock lim arm (pre ++ [p.name.data.toList]) kp := by
  have hpf : ∀ k ∈ p.blocks, k < b ∨ D + 2 ≤ k := fun k hk => (hM.feet k (mem_foot (p := p) (by simp) hk)).imp (fun h => by have := hlt k h; omega) id
  have no : ∀ k, b ≤ k → k < D + 2 → k ≠ b + 1 + 1 → ¬ (k ∈ p.blocks ∨ k = b + 1 + 1) := fun k h1 h2 h3 h => h.elim (fun h => by have := hpf k h; omega) h3
  refine ⟨⟨hk.size, fun k h => ?_⟩, l1 ++ p' :: l2, h2, ?_, hk.heap hM.b0 (no _ (Nat.le_refl _) (by omega) (by omega)), hk.heap hM.b1 (no _ (by omega) (by omega) (by omega)), ?_, ?_, ?_⟩
  · rcases h with h | h | h
    · have := hrd k h
      exact hk.block k (by omega) (no k (by omega) (by omega) (by omega))
    · subst h; exact hk.block _ (by omega) (no _ (by omega) (by omega) (by omega))
    · subst h; exact hk.block _ (by omega) (no _ (by omega) (by omega) (by omega))
  · have := all2_set hM.falls hnd hi hf
    rwa [show (l1 ++ p :: l2).set i p' = l1 ++ p' :: l2 by rw [← hli]; simp] at this
  · obtain ⟨j, hj, hb⟩ := hb2
    exact ⟨j, by simpa using hj, hb⟩
  · refine hM.kept.trans hk fun k hkw h => ?_
    rcases h with h | h
    · exact (hM.feet k (mem_foot (p := p) (by simp) h)).resolve_right (by omega)
    · omega
  · intro k hm
    have : k ∈ foot F M (l1 ++ p :: l2) ∨ k ∈ p'.blocks := by
      simp only [foot, List.flatMap_append, List.flatMap_cons, List.mem_cons, List.mem_append] at hm ⊢
      rcases hm with hm | hm | hm | hm | hm <;> simp [hm]
    rcases this with h | h
    · exact hM.feet k h
    · rcases hfe k h with h | h
      · exact hM.feet k (mem_foot (p := p) (by simp) h)
      · exact .inr (by omega)
theorem fall_at {W W3 : World} {p : PF} {b2 s : Nat} {x : Value} (h : p.At W) (hb : b2 ∉ p.blocks) (hs : s ≤ p.b.length) (hW : W3 = (W.setCell ⟨b2, 0, none⟩ x).setCell ⟨p.blk, 1, none⟩ (.int .i64 s)) : ({ p with safe := s } : PF).At W3 := by
  have h1 : p.At (W.setCell ⟨b2, 0, none⟩ x) := h.kept (kF W b2 0 x) fun k hk e => hb (by rw [← e]; exact hk)
  rw [hW]
  exact h1.safeTo hs
theorem fall_end {W W3 W4 : World} {F M b2 s iv : Nat} {l1 l2 : List PF} {p : PF} {clock : Nat} {lim arm : Int} {v : Value} (h : FilesAt W F M (l1 ++ p :: l2) clock lim arm true) (hb : b2 ∉ foot F M (l1 ++ p :: l2)) (hs : s ≤ p.b.length)
    (hB2 : Boxed W b2 3 (.int .i64 iv)) (hW : W3 = (W.setCell ⟨b2, 0, none⟩ (.int .i64 ((iv : Int) + 1))).setCell ⟨p.blk, 1, none⟩ (.int .i64 s)) (hk4 : Kept (fun _ => False) W3 W4)
    (hown : W4.ownsRow W3.heap.size 5 1 v (p.b.take s).length ((p.b.take s).map bv)) :
    FilesAt (W4.setCell ⟨p.blk, 0, none⟩ v) F M (l1 ++ { p with b := p.b.take s, safe := s, val := v } :: l2) clock lim arm true ∧ Kept (fun k => k ∈ p.blocks ∨ k = b2) W (W4.setCell ⟨p.blk, 0, none⟩ v) ∧
    (∀ k ∈ PF.blocks { p with b := p.b.take s, safe := s, val := v }, k ∈ p.blocks ∨ W.heap.size ≤ k) ∧ Boxed (W4.setCell ⟨p.blk, 0, none⟩ v) b2 3 (.int .i64 ((iv : Int) + 1)) := by
  have hbp : b2 ∉ p.blocks := fun hk => hb (mem_foot (p := p) (by simp) hk)
  have hbb : b2 ≠ p.blk := fun e => hbp (by rw [e]; exact List.mem_cons_self ..)
  have hpl := (h.at_ p (by simp)).len
  have hlt : (p.b.take s).length = s := by rw [List.length_take]; omega
  have h3 := fall_at (h.at_ p (by simp)) hbp hs hW
  have h4 : W4.heap[p.blk]? = some (.cells #[p.val, .int .i64 s] 100 (0, 0)) := hk4.heap h3.cell (by simp)
  have hka : Kept (fun k => k = b2) W (W.setCell ⟨b2, 0, none⟩ (.int .i64 ((iv : Int) + 1))) := kF W b2 0 _
  have ha : FilesAt (W.setCell ⟨b2, 0, none⟩ (.int .i64 ((iv : Int) + 1))) F M (l1 ++ p :: l2) clock lim arm true := h.kept hka fun k hk e => hb (by rw [← e]; exact hk)
  have hk3 : Kept (fun k => k = p.blk) (W.setCell ⟨b2, 0, none⟩ (.int .i64 ((iv : Int) + 1))) W3 := by rw [hW]; exact kF _ p.blk 1 _
  have hk5 : Kept (fun k => k = p.blk) (W.setCell ⟨b2, 0, none⟩ (.int .i64 ((iv : Int) + 1))) (W4.setCell ⟨p.blk, 0, none⟩ v) := (hk3.trans' (hk4.mono fun _ _ h => h.elim)).trans' (kF W4 p.blk 0 v)
  have hs3 : W.heap.size ≤ W3.heap.size := by have := hka.size; have := hk3.size; omega
  have hob : ∀ k, v.ownBlock = some k → W3.heap.size ≤ k := by
    intro k hk
    rcases hown.2 with ⟨hv, _⟩ | ⟨g, cap, cur, hv, hbs, _⟩
    · rw [hv] at hk; cases hk
    · rw [hv] at hk
      have : g = k := by simpa [Value.ownBlock] using hk
      omega
  refine ⟨ha.replace (q := { p with b := p.b.take s, safe := s, val := v }) (hk5.mono fun k _ e => by rw [e]; exact List.mem_cons_self ..) (At.store0 h4 (own_base hown) (by rw [hlt]; exact Nat.le_refl _) (by rw [hlt]; omega)) rfl rfl rfl (fun k hk => .inr (by have := hob k hk; have := hk3.size; omega)), ?_, ?_, ?_⟩
  · exact (hka.mono fun k _ e => .inr e).trans' (hk5.mono fun k _ e => .inl (by rw [e]; exact List.mem_cons_self ..))
  · intro k hk
    rcases List.mem_cons.1 hk with hk | hk
    · exact .inl (by rw [hk]; exact List.mem_cons_self ..)
    · exact .inr (by have := hob k (by simpa using hk); omega)
  · exact hk5.heap (hB2.set (.int .i64 ((iv : Int) + 1))) hbb
end Go.Proofs.YtefpigakhhfcaaaDoor
end
