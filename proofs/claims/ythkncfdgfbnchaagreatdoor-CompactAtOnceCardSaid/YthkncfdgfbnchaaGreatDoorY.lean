/-
  Regions that draw their order inside a round of a range over a function: what holds of them outside a round holds inside, where no operation calls.
-/
import Derived.StillTailTactics
import Derived.Test.YthkncfdgfbnchaaGreatDoorL
import Derived.OrdersIn
import Derived.OwnWalkIn
set_option linter.unusedVariables false
set_option linter.unusedSimpArgs false
namespace Go.Proofs.YthkncfdgfbnchaaGreatDoor
/-- Operations that call no function and are no statement of control: they yield a value, or nothing, or halt. -/
def plainB : Op → Bool
  | .nilCheck _ | .move _ | .assign _ | .pick .. | .alloc _ | .box .. | .build .. | .load .. | .store .. | .binOp .. | .unOp .. | .convert .. | .makeFunc .. | .makeMap .. | .makeSlice .. | .slice .. | .fieldAddr .. | .field .. | .indexAddr .. | .index .. | .lookup .. | .mapUpdate .. | .mapEntry .. | .entryStore .. | .extract .. | .range .. | .next .. | .entry .. => true
  | .call { callee := .builtin .len, .. } => true
  | .call { callee := .builtin .append, .. } => true
  | .call { callee := .builtin .min, .. } => true
  | .call { callee := .builtin .max, .. } => true
  | _ => false
def nextB : Next → Bool
  | .value _ | .skip => true
  | _ => false
def resPlain : Result Next → Prop
  | .ok n _ => nextB n = true
  | .halt _ _ => True
theorem plain_bind {α : Type} {P : Program} {w : World} (s : Sem α) (f : α → Next) (hf : ∀ x, nextB (f x) = true) : resPlain (Sem.run P (s.bind fun x => Sem.pure (f x)) w) := by
  rw [Sem.run_bind']
  cases s.run P w
  · exact hf _
  · trivial
theorem halt_plain {P : Program} {w : World} {s : Sem Next} (h : ∀ n w', s.run P w ≠ .ok n w') : resPlain (s.run P w) := by
  cases hr : s.run P w with
  | ok n w' => exact absurd hr (h n w')
  | halt x w' => trivial
theorem nil_plain {P : Program} {w : World} {o : Oper} {ρ : Operand → Value} {x : Operand} (ho : o.op = .nilCheck x) : resPlain ((execOp ρ o).run P w) := by
  unfold execOp
  rw [ho]
  simp only
  split
  · trivial
  · trivial
  · trivial
  · split
    · trivial
    · simp only [bind, Sem.run_bind']
      generalize Sem.run P _ w = r
      cases r with
      | ok a w1 =>
        simp only [Result.andThen]
        generalize Sem.run P _ w1 = r2
        cases r2 with
        | ok b w2 =>
          simp only
          split
          · trivial
          · trivial
        | halt y w2 => trivial
      | halt y w1 => trivial
    · trivial
  · trivial
theorem execOp_plain {P : Program} {o : Oper} {ρ : Operand → Value} {w : World} (h : plainB o.op = true) : resPlain ((execOp ρ o).run P w) := by
  unfold execOp
  cases ho : o.op <;> rw [ho] at h <;> first | (have hn := nil_plain (P := P) (w := w) (ρ := ρ) ho; unfold execOp at hn; rw [ho] at hn; exact hn) | exact (plain_bind _ _ fun _ => rfl) | (show nextB (Next.value _) = true; rfl) | (exfalso; revert h; simp [plainB]; done) | skip
  rename_i c
  obtain ⟨cal, args, tys⟩ := c
  cases cal with
  | value f => simp [plainB] at h
  | invoke r m => simp [plainB] at h
  | builtin b =>
    cases b <;> first | (simp [plainB] at h; done) | skip
    all_goals
      show resPlain (Sem.run P ((resolve ρ _ o.type).bind fun d => invoke d.target d.args) w)
      simp only [resolve, pure, Sem.bind, invoke, builtin]
      exact plain_bind _ _ fun _ => rfl
variable {F : Fence} {n : Nat} {P : Program}
theorem about_plain {o : Oper} {ρ : Operand → Value} {w : World} (h : plainB o.op = true) : o.about P w ρ = none := by
  unfold Oper.about
  cases ho : o.op <;> rw [ho] at h <;> first | rfl | (exfalso; revert h; simp [plainB]; done) | skip
  rename_i c
  obtain ⟨cal, args, tys⟩ := c
  cases cal with
  | value f => simp [plainB] at h
  | invoke r m => simp [plainB] at h
  | builtin b => simp [resolve, Target.leads, pure, Sem.run]
theorem wpIn_of_wp {o : Oper} {a : Act} {w : World} {K : Act → World → Prop} {Q : Exit → Act → World → Prop} (hp : plainB o.op = true) (h : o.wp P a w K Q) : o.wpIn F n P a w K Q := by
  unfold Oper.wpIn
  refine ⟨fun f hf => (by rw [about_plain hp] at hf; cases hf), ?_⟩
  rw [Oper.semAt_eq _ _ _ (fun c hc => by rw [hc] at hp; cases hp)]
  have hr := execOp_plain (P := P) (ρ := a.eval) (w := w) hp
  unfold Oper.wp at h
  generalize (execOp a.eval o).run P w = r at *
  cases r with
  | ok nx w' => cases nx <;> first | (simp [resPlain, nextB] at hr; done) | exact h
  | halt x w' => cases x <;> exact h
theorem wpAnyIn_of_wpAny {md : Region.Mode} {ops : Array Oper} {Q : Exit → Act → World → Prop} (hp : ∀ (i : Nat) (o : Oper), ops[i]? = some o → plainB o.op = true) (hQ : ¬ LetsOut Q) : ∀ (fuel : Nat) (listed : Array Bool) (a : Act) (w : World),
    wpAny P md ops Q fuel listed a w → wpAnyIn F n P md ops Q fuel listed a w
  | 0, _, _, _, h => h
  | fuel + 1, listed, a, w, h => by
    refine ⟨h.1, fun i hi => ?_⟩
    have := h.2 i hi
    unfold wpOp at this
    unfold wpOpIn
    cases ho : ops[i]? with
    | none => rw [ho] at this; exact wpAnyIn_of_wpAny hp hQ fuel _ _ _ this
    | some o =>
      simp only [ho] at this ⊢
      split
      · rename_i hw
        simp only [hw, if_true] at this
        rcases this with this | ⟨_, h2⟩
        · exact Oper.wpIn_mono (fun a w h => wpAnyIn_of_wpAny hp hQ fuel _ a w h) (wpIn_of_wp (hp i o ho) this)
        · exact absurd h2 hQ
      · rename_i hw
        simp only [hw] at this
        exact ⟨fun f hf => (by rw [about_plain (hp i o ho)] at hf; cases hf), wpAnyIn_of_wpAny hp hQ fuel _ _ _ this⟩
/-- The region's own law in that form. -/
theorem wpAny_still_tail {Q : Exit → Act → World → Prop} {a : Act} {w : World} {l : List Oper} (n : Nat) (hB : Region.lexTailB .any l.toArray n = true)
    (h : wpStill P l.toArray { w with drawn := w.drawn + 1 } (fun a' => wpList P l.toArray Q (l.drop n) a' { w with drawn := w.drawn + 1 }) (l.take n) a) :
    wpAny P .any l.toArray Q l.toArray.size (Array.replicate l.toArray.size false) a { w with drawn := w.drawn + 1 } := by
  simp only [Region.lexTailB, Bool.and_eq_true, decide_eq_true_eq] at hB
  obtain ⟨⟨⟨⟨hsel, hn⟩, hs⟩, hc⟩, hlex⟩ := hB
  have hn' : n < l.length := by simpa using hn
  have htl : (l.take n).length = n := by simp; omega
  have hdl : (l.drop n).length = l.toArray.size - n := by simp
  have inv0 : HeadInv .any l.toArray n (Array.replicate l.toArray.size false) :=
    ⟨by simp, fun j oj _ hl => (by rw [getD_replicate_false] at hl; cases hl), fun t _ ht => getD_in (by simpa using ht) (getD_replicate_false _ _)⟩
  have H := wpAnyL_lex (md := .any) (g := l.toArray.size - n) hsel hs hc hn (l.take n) 0 _ a (fun j hj => by
    have hj' : j < n := by rw [htl] at hj; exact hj
    simp [hj']) (by simpa using htl) inv0 (by rw [htl]; exact hlex) h
  have := wpAny_of_head (Q' := Q) (g := l.toArray.size - n) (fun listed a' hL => by
    have := wpAny_of_seq (md := .any) (Q' := Q) (l.drop n) n listed a' { w with drawn := w.drawn + 1 } (fun j => by simp [List.getElem?_drop]) (by rw [hdl]; exact hL.1) hL.2
    rwa [hdl] at this) _ _ _ H
  rw [htl, show n + (l.toArray.size - n) = l.toArray.size by omega] at this
  exact this
/-- A region that draws its order, in a round: reads, then one tail of writes. -/
theorem wpIn_still_tail {id : Nat} {Q : Exit → Act → World → Prop} {a : Act} {w : World} {l : List Oper} (k : Nat) (hm : P.follows .mixedOrders = true) (hB : Region.lexTailB .any l.toArray k = true)
    (hp : (l.all fun o => plainB o.op) = true) (hQ : ¬ LetsOut Q)
    (h : wpStill P l.toArray { w with drawn := w.drawn + 1 } (fun a' => wpList P l.toArray Q (l.drop k) a' { w with drawn := w.drawn + 1 }) (l.take k) a) : (Code.region id l.toArray true).wpIn F n P Q a w :=
  wpIn_region_any hm (wpAnyIn_of_wpAny (fun i o ho => List.all_eq_true.1 hp o (by simpa using List.mem_of_getElem? (by simpa using ho))) hQ _ _ _ _ (wpAny_still_tail k hB h))
/-! ### A region with calls of one function -/
def callsB (f : Nat) : Op → Bool
  | .call { callee := .value (.func g), .. } => g == f
  | _ => false
theorem wpIn_call {l : Nat} {o : Oper} {a : Act} {w : World} {K : Act → World → Prop} {Q : Exit → Act → World → Prop} {f : Nat} (he : ∀ args w, (callFunc f args).run P w = .ok (.enter f args) w) (hp : callsB f o.op = true) (h : o.wp P a w K Q) :
    o.wpIn (Fence.wide.inRound l) n P a w K Q := by
  cases ho : o.op <;> rw [ho] at hp <;> first | (exfalso; revert hp; simp [callsB]; done) | skip
  rename_i c
  obtain ⟨cal, args, tys⟩ := c
  cases cal with
  | builtin b => simp [callsB] at hp
  | invoke r m => simp [callsB] at hp
  | value g =>
    cases g <;> first | (exfalso; revert hp; simp [callsB]; done) | skip
    rename_i g
    have hg : g = f := by simpa [callsB] using hp
    subst hg
    unfold Oper.wpIn
    refine ⟨fun f hf => trivial, ?_⟩
    rw [Oper.semAt_eq _ _ _ (fun c hc => by rw [ho] at hc; cases hc)]
    unfold Oper.wp at h
    have hr : (execOp a.eval o).run P w = .ok (.enter g (args.map a.eval)) w := by
      simp [execOp, ho, resolve, invoke, Act.eval, go_sem, he]
    rw [hr] at h ⊢
    exact ⟨fun e => (by cases e), CallsIn.inRound l (callsIn_wide.2 h)⟩
theorem wpAnyIn_of_calls {l : Nat} {f : Nat} (he : ∀ args w, (callFunc f args).run P w = .ok (.enter f args) w) {md : Region.Mode} {ops : Array Oper} {Q : Exit → Act → World → Prop} (hp : ∀ (i : Nat) (o : Oper), ops[i]? = some o → (plainB o.op || callsB f o.op) = true) (hQ : ¬ LetsOut Q) : ∀ (fuel : Nat) (listed : Array Bool) (a : Act) (w : World),
    wpAny P md ops Q fuel listed a w → wpAnyIn (Fence.wide.inRound l) n P md ops Q fuel listed a w
  | 0, _, _, _, h => h
  | fuel + 1, listed, a, w, h => by
    refine ⟨h.1, fun i hi => ?_⟩
    have := h.2 i hi
    unfold wpOp at this
    unfold wpOpIn
    cases ho : ops[i]? with
    | none => rw [ho] at this; exact wpAnyIn_of_calls he hp hQ fuel _ _ _ this
    | some o =>
      have hpo := hp i o ho
      simp only [ho] at this ⊢
      split
      · rename_i hw
        simp only [hw, if_true] at this
        rcases this with this | ⟨_, h2⟩
        · refine Oper.wpIn_mono (fun a w h => wpAnyIn_of_calls he hp hQ fuel _ a w h) ?_
          rcases Bool.or_eq_true_iff.1 hpo with hpo | hpo
          · exact wpIn_of_wp hpo this
          · exact wpIn_call he hpo this
        · exact absurd h2 hQ
      · rename_i hw
        simp only [hw] at this
        exact ⟨fun f hf => trivial, wpAnyIn_of_calls he hp hQ fuel _ _ _ this⟩
theorem wpIn_region_calls {r f id : Nat} {Q : Exit → Act → World → Prop} {a : Act} {w : World} {l : List Oper} (hm : P.follows .mixedOrders = true) (hp : (l.all fun o => plainB o.op || callsB f o.op) = true)
    (he : ∀ args w, (callFunc f args).run P w = .ok (.enter f args) w) (hQ : ¬ LetsOut Q) (h : wpAny P .any l.toArray Q l.toArray.size (Array.replicate l.toArray.size false) a w.drew) : (Code.region id l.toArray true).wpIn (Fence.wide.inRound r) n P Q a w :=
  wpIn_region_any hm (wpAnyIn_of_calls he (fun i o ho => List.all_eq_true.1 hp o (by simpa using List.mem_of_getElem? (by simpa using ho))) hQ _ _ _ _ h)
theorem wpIn_still_drew {id : Nat} {Q : Exit → Act → World → Prop} {a : Act} {w : World} {l : List Oper} (k : Nat) (hm : P.follows .mixedOrders = true) (hB : Region.lexTailB .any l.toArray k = true)
    (hp : (l.all fun o => plainB o.op) = true) (hQ : ¬ LetsOut Q)
    (h : wpStill P l.toArray w.drew (fun a' => wpList P l.toArray Q (l.drop k) a' w.drew) (l.take k) a) : (Code.region id l.toArray true).wpIn F n P Q a w := wpIn_still_tail k hm hB hp hQ h
end Go.Proofs.YthkncfdgfbnchaaGreatDoor
