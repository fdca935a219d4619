import Derived.OrdersHeld
import Derived.Test.YtefpigakhhfcaaaDoorMbp
/-! A region that draws its order, in a round or not: loads are taken first, though stores behind them all turn what they read. -/
section
set_option linter.unusedVariables false
set_option linter.unusedSimpArgs false
namespace Go.Proofs.YtefpigakhhfcaaaDoor

section
variable {P : Program} {md : Region.Mode} {ops : Array Oper} {Q : Exit → Act → World → Prop} {S : World → Prop} {E : Nat → Bool}
/-- Whatever order is taken; behind every operation but those of E the condition S is met. -/
def wpAnyE (P : Program) (md : Region.Mode) (ops : Array Oper) (Q : Exit → Act → World → Prop) (S : World → Prop) (E : Nat → Bool) : Nat → Array Bool → Act → World → Prop
  | 0, listed, a, w => Region.ready md ops listed = [] ∧ Q .normal a w
  | n + 1, listed, a, w => (Region.ready md ops listed = [] → Q .normal a w) ∧ ∀ i ∈ Region.ready md ops listed, wpOp P ops Q i (fun a' w' => (E i = false → S w') ∧ wpAnyE P md ops Q S E n (listed.setIfInBounds i true) a' w') a w
theorem wpAny_of_E : ∀ (n : Nat) (listed : Array Bool) (a : Act) (w : World), wpAnyE P md ops Q S E n listed a w → wpAny P md ops Q n listed a w
  | 0, _, _, _, h => h
  | n + 1, _, _, _, h => ⟨h.1, fun i hi => wpOp_mono (fun a w h => wpAny_of_E n _ a w h.2) (h.2 i hi)⟩
/-- Number j waits for number i, through at most so many others. -/
def waits (md : Region.Mode) (ops : Array Oper) : Nat → Nat → Nat → Bool
  | 0, _, _ => false
  | n + 1, j, i => (ops[j]?.map fun o => o.after.any fun e => Region.binds md e && (e.on == i || waits md ops n e.on i)).getD false
/-- What has come up has come up behind what it waits for. -/
def ShutL (md : Region.Mode) (ops : Array Oper) (listed : Array Bool) : Prop := ∀ (j : Nat) (o : Oper), ops[j]? = some o → listed.getD j false = true → ∀ e ∈ o.after, Region.binds md e = true → listed.getD e.on false = true
def shutB (md : Region.Mode) (ops : Array Oper) (listed : Array Bool) : Bool := (List.range ops.size).all fun j => !listed.getD j false || ((ops[j]?.map fun o => o.after.all fun e => !Region.binds md e || listed.getD e.on false).getD false)
theorem shutB_spec {listed : Array Bool} (h : shutB md ops listed = true) : ShutL md ops listed := fun j o ho hl e he hb => by
  have hj := (Array.getElem?_eq_some_iff.1 ho).1
  have h1 := List.all_eq_true.1 h j (List.mem_range.2 hj)
  rw [hl, ho] at h1
  simp only [Bool.not_true, Option.map_some, Option.getD_some, Bool.false_or] at h1
  have h2 := Array.all_eq_true'.1 h1 e he
  rw [hb] at h2
  simpa using h2
theorem ShutL.set {listed : Array Bool} {i : Nat} (h : ShutL md ops listed) (hi : i ∈ Region.ready md ops listed) : ShutL md ops (listed.setIfInBounds i true) := fun j o ho hl e he hb => by
  by_cases hij : i = j
  · subst hij
    obtain ⟨-, o', ho', hall⟩ := mem_ready.1 hi
    rw [ho] at ho'
    injection ho' with ho'
    subst ho'
    exact getD_set_true (hall e he hb)
  · rw [getD_set_ne false hij] at hl
    exact getD_set_true (h j o ho hl e he hb)
theorem waits_spec {listed : Array Bool} {i : Nat} (h : ShutL md ops listed) : ∀ (n j : Nat), (∀ o, ops[j]? = some o → ∀ e ∈ o.after, Region.binds md e = true → listed.getD e.on false = true) → waits md ops n j i = true → listed.getD i false = true
  | 0, j, _, hw => by cases hw
  | n + 1, j, hj, hw => by
    unfold waits at hw
    cases ho : ops[j]? with
    | none => rw [ho] at hw; cases hw
    | some o =>
      rw [ho] at hw
      simp only [Option.map_some, Option.getD_some] at hw
      obtain ⟨e, he, h2⟩ := Array.any_eq_true'.1 hw
      rw [Bool.and_eq_true, Bool.or_eq_true, beq_iff_eq] at h2
      have h3 := hj o ho e he h2.1
      rcases h2.2 with h4 | h4
      · rw [← h4]; exact h3
      · exact waits_spec h n e.on (fun o2 ho2 e2 he2 hb2 => h e.on o2 ho2 h3 e2 he2 hb2) h4
/-- Each of E waits for number i. -/
def waitB (md : Region.Mode) (ops : Array Oper) (E : Nat → Bool) (i : Nat) : Bool := (List.range ops.size).all fun j => !E j || waits md ops 4 j i
theorem wpAnyE_first {i : Nat} {oi : Oper} {v : Value} (hi : ops[i]? = some oi) (hsel : ∀ (j : Nat) (o : Oper) cs b, ops[j]? = some o → o.op ≠ .select cs b)
    (hQ : ∀ c a w, Q (.panic c) (a.put oi.dst v) w → Q (.panic c) a w) (hE : waitB md ops E i = true) (hEi : E i = false) : ∀ (n : Nat) (listed : Array Bool) (a : Act) (w : World), ShutL md ops listed →
      (∀ j oj, ops[j]? = some oj → j ≠ i → listed.getD j true = false → (∀ e ∈ oj.after, Region.binds md e = true → e.on ≠ i) → oi.apart ops oj = true) →
      i ∈ Region.ready md ops listed → YieldsIf P ops S oi v a → S w →
      wpAnyE P md ops Q S E n (listed.setIfInBounds i true) (a.put oi.dst v) w → wpAnyE P md ops Q S E (n + 1) listed a w
  | n, listed, a, w, hcl, hfree, hr, hy, hS, H => by
    refine ⟨fun h => (by rw [h] at hr; cases hr), fun j hj => ?_⟩
    by_cases hji : j = i
    · subst hji
      exact hy.wpOp hi hS ⟨fun _ => hS, H⟩
    · obtain ⟨hun, oj, hoj, hall⟩ := mem_ready.1 hj
      have hi0 := (mem_ready.1 hr).1
      have hno : ∀ x, listed.getD i false = true → x := fun x h1 => by
        simp only [Array.getD_eq_getD_getElem?] at h1 hi0
        cases h9 : listed[i]? with
        | none => rw [h9] at hi0; cases hi0
        | some x => rw [h9] at h1 hi0; simp only [Option.getD_some] at h1 hi0; rw [h1] at hi0; cases hi0
      have hnot : ∀ e ∈ oj.after, Region.binds md e = true → e.on ≠ i := fun e he hb heq => hno _ (by rw [← heq]; exact hall e he hb)
      have hEj : E j = false := by
        cases h : E j with
        | false => rfl
        | true =>
          have hjl := (Array.getElem?_eq_some_iff.1 hoj).1
          have h1 := List.all_eq_true.1 hE j (List.mem_range.2 hjl)
          rw [h, Bool.not_true, Bool.false_or] at h1
          exact hno _ (waits_spec hcl 4 j (fun o ho e he hb => by rw [hoj] at ho; injection ho with ho; subst ho; exact hall e he hb) h1)
      cases n with
      | zero =>
        have h9 := ready_mono hj hji
        rw [H.1] at h9
        cases h9
      | succ n =>
        have h2 := wpOp_putIf hoj (hfree j oj hoj hji hun hnot) (fun cs b => hsel i oi cs b hi) (fun cs b => hsel j oj cs b hoj) hQ hy (H.2 j (ready_mono hj hji))
        refine wpOp_mono (fun a' w' h3 => ⟨fun _ => h3.2.1 hEj, wpAnyE_first hi hsel hQ hE hEi n (listed.setIfInBounds j true) a' w' (hcl.set hj) (fun k ok hk hki hk2 hno => hfree k ok hk hki ?_ hno) (ready_mono hr (Ne.symm hji)) h3.1 (h3.2.1 hEj) ?_⟩) h2
        · by_cases hjk : j = k
          · subst hjk; exact hun
          · rwa [getD_set_ne true hjk] at hk2
        · rw [Array.setIfInBounds_comm _ _ hji]
          exact h3.2.2
theorem wpAnyE_take {i : Nat} {oi : Oper} {v : Value} {n : Nat} {listed : Array Bool} {a : Act} {w : World} (hi : ops[i]? = some oi) (hs : Region.noSelect ops = true) (hf : Region.free md ops listed i = true) (hr : (Region.ready md ops listed).contains i = true)
    (hQ : ∀ c a w, Q (.panic c) (a.put oi.dst v) w → Q (.panic c) a w) (hE : (waitB md ops E i && shutB md ops listed) = true) (hEi : E i = false) (hy : YieldsIf P ops S oi v a) (hS : S w)
    (h : wpAnyE P md ops Q S E n (listed.setIfInBounds i true) (a.put oi.dst v) w) : wpAnyE P md ops Q S E (n + 1) listed a w :=
  wpAnyE_first hi (Region.noSelect_spec hs) hQ (Bool.and_eq_true_iff.1 hE).1 hEi n listed a w (shutB_spec (Bool.and_eq_true_iff.1 hE).2) (Region.free_spec hi hf) (by simpa using hr) hy hS h
/-- Each of 'rs' comes up next. -/
def ReadyE (P : Program) (md : Region.Mode) (ops : Array Oper) (Q : Exit → Act → World → Prop) (S : World → Prop) (E : Nat → Bool) (n : Nat) (listed : Array Bool) (a : Act) (w : World) (rs : List Nat) : Prop :=
  ∀ i ∈ rs, wpOp P ops Q i (fun a' w' => (E i = false → S w') ∧ wpAnyE P md ops Q S E n (listed.setIfInBounds i true) a' w') a w
theorem ReadyE.nil {n : Nat} {listed : Array Bool} {a : Act} {w : World} : ReadyE P md ops Q S E n listed a w [] := fun _ h => by cases h
theorem ReadyE.cons {n : Nat} {listed : Array Bool} {a : Act} {w : World} {i : Nat} {o : Oper} {rs : List Nat} (ho : ops[i]? = some o)
    (h : ∀ K : Act → World → Prop, Shut (∀ a w, (E i = false → S w) → wpAnyE P md ops Q S E n (listed.setIfInBounds i true) a w → K a w) → if Region.wanted o (yielded ops a.tmps) = true then Oper.wp P o a w K Q else K (a.put o.dst undef) w)
    (hs : ReadyE P md ops Q S E n listed a w rs) : ReadyE P md ops Q S E n listed a w (i :: rs) := fun j hj => by
  rcases List.mem_cons.1 hj with rfl | hj
  · exact wpOp_step ho fun K hK => h K fun a w h1 h2 => hK a w ⟨h1, h2⟩
  · exact hs j hj
theorem wpAnyE_ready {rs : List Nat} {n : Nat} {listed : Array Bool} {a : Act} {w : World} (hr : Region.ready md ops listed = rs) (hne : rs ≠ []) (h : ReadyE P md ops Q S E n listed a w rs) : wpAnyE P md ops Q S E (n + 1) listed a w :=
  ⟨fun h0 => absurd (hr ▸ h0) hne, hr ▸ h⟩
theorem wpAnyE_done {listed : Array Bool} {a : Act} {w : World} (hr : Region.ready md ops listed = []) (h : Q .normal a w) : ∀ n, wpAnyE P md ops Q S E n listed a w
  | 0 => ⟨hr, h⟩
  | _ + 1 => ⟨fun _ => h, by rw [hr]; simp⟩
end
/-- Plain operations, with the building of slices. -/
def plainE (o : Op) : Bool := plainB o || (match o with | .buildSlice .. => true | _ => false)
theorem wpIn_of_wpE {F : Fence} {n : Nat} {P : Program} {o : Oper} {a : Act} {w : World} {K : Act → World → Prop} {Q : Exit → Act → World → Prop} (hp : plainE o.op = true) (h : o.wp P a w K Q) : o.wpIn F n P a w K Q := by
  rcases Bool.or_eq_true_iff.1 hp with h1 | h1
  · exact wpIn_of_wp h1 h
  · cases ho : o.op <;> rw [ho] at h1 <;> first | (exfalso; revert h1; simp; done) | skip
    have hab : o.about P w a.eval = none := by unfold Oper.about; rw [ho]
    unfold Oper.wpIn
    refine ⟨fun f hf => (by rw [hab] at hf; cases hf), ?_⟩
    rw [Oper.semAt_eq _ _ _ (fun c hc => by rw [hc] at ho; cases ho)]
    have hr : resPlain ((execOp a.eval o).run P w) := by
      unfold execOp
      rw [ho]
      exact plain_bind _ _ fun _ => rfl
    unfold Oper.wp at h
    generalize (execOp a.eval o).run P w = r at *
    cases r with
    | ok nx w' => cases nx <;> first | (simp [resPlain, nextB] at hr; done) | exact h
    | halt x w' => cases x <;> exact h
theorem about_plainE {P : Program} {o : Oper} {ρ : Operand → Value} {w : World} (hp : plainE o.op = true) : o.about P w ρ = none := by
  rcases Bool.or_eq_true_iff.1 hp with h1 | h1
  · exact about_plain h1
  · cases ho : o.op <;> rw [ho] at h1 <;> first | (exfalso; revert h1; simp; done) | skip
    unfold Oper.about
    rw [ho]
theorem wpAnyIn_of_wpAnyE {F : Fence} {n : Nat} {P : Program} {md : Region.Mode} {ops : Array Oper} {Q : Exit → Act → World → Prop} (hp : ∀ (i : Nat) (o : Oper), ops[i]? = some o → plainE o.op = true) (hQ : ¬ LetsOut Q) : ∀ (fuel : Nat) (listed : Array Bool) (a : Act) (w : World),
    wpAny P md ops Q fuel listed a w → wpAnyIn F n P md ops Q fuel listed a w
  | 0, _, _, _, h => h
  | fuel + 1, listed, a, w, h => by
    refine ⟨h.1, fun i hi => ?_⟩
    have := h.2 i hi
    unfold wpOp at this
    unfold wpOpIn
    cases ho : ops[i]? with
    | none => rw [ho] at this; exact wpAnyIn_of_wpAnyE hp hQ fuel _ _ _ this
    | some o =>
      simp only [ho] at this ⊢
      split
      · rename_i hw
        simp only [hw, if_true] at this
        rcases this with this | ⟨_, h2⟩
        · exact Oper.wpIn_mono (fun a w h => wpAnyIn_of_wpAnyE hp hQ fuel _ a w h) (wpIn_of_wpE (hp i o ho) this)
        · exact absurd h2 hQ
      · rename_i hw
        simp only [hw] at this
        exact ⟨fun f hf => (by rw [about_plainE (hp i o ho)] at hf; cases hf), wpAnyIn_of_wpAnyE hp hQ fuel _ _ _ this⟩
/-- The beginning, in a round of a range over a function: no operation calls. -/
theorem wpIn_region_E {F : Fence} {n : Nat} {P : Program} {id : Nat} {Q : Exit → Act → World → Prop} {a : Act} {w : World} {l : List Oper} (S : World → Prop) (E : Nat → Bool) (hm : P.follows .mixedOrders = true) (hp : (l.all fun o => plainE o.op) = true) (hQ : ¬ LetsOut Q)
    (h : wpAnyE P .any l.toArray Q S E l.toArray.size (Array.replicate l.toArray.size false) a w.drew) : (Code.region id l.toArray true).wpIn F n P Q a w :=
  wpIn_region_any hm (wpAnyIn_of_wpAnyE (fun i o ho => List.all_eq_true.1 hp o (by simpa using List.mem_of_getElem? (by simpa using ho))) hQ _ _ _ _ (wpAny_of_E _ _ _ _ h))
end Go.Proofs.YtefpigakhhfcaaaDoor
end
