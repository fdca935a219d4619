import Derived.Test.YtefpigakhhfcaaaDoorMaq
import Derived.WalkMore
import Derived.Laws.CopyRow
import Derived.Lib.Overlaps
import Derived.Lib.AppendZeros
import Derived.Test.YtefpigakhhfcaaaDoorMam
/-! Rows of pairs of a call's own. -/
section
set_option linter.unusedVariables false
set_option linter.unusedSimpArgs false
namespace Go.Proofs.YtefpigakhhfcaaaDoor
open Go.RowKit

theorem cellsP_len (rs : List PV) : (cellsP rs).length = 3 * rs.length := by
  induction rs with
  | nil => rfl
  | cons r rs ih =>
    have : (cellsP (r :: rs)).length = 3 + (cellsP rs).length := by simp [cellsP, PV.cells]; omega
    rw [this, ih, List.length_cons]; omega
theorem cellsP_append (a b : List PV) : cellsP (a ++ b) = cellsP a ++ cellsP b := by simp [cellsP]
theorem cellsP_one (rs : List PV) : ∀ u ∈ cellsP rs, u.oneCell' = true := by
  intro u hu
  simp only [cellsP, List.mem_flatMap] at hu
  obtain ⟨r, hr, hu⟩ := hu
  simp only [PV.cells, List.mem_cons, List.not_mem_nil, or_false] at hu
  rcases hu with rfl | rfl | rfl <;> rfl
theorem cellsP_at (rs : List PV) (k : Nat) (r : PV) (h : rs[k]? = some r) (i : Nat) (hi : i < 3) : (cellsP rs)[3 * k + i]? = r.cells[i]? := by
  induction rs generalizing k with
  | nil => simp at h
  | cons q rs ih =>
    have e : cellsP (q :: rs) = q.cells ++ cellsP rs := rfl
    have hq : q.cells.length = 3 := rfl
    cases k with
    | zero =>
      simp at h; subst h
      rw [e, List.getElem?_append_left (by rw [hq]; omega)]; congr 1; omega
    | succ k =>
      simp at h
      rw [e, List.getElem?_append_right (by rw [hq]; omega), hq, show 3 * (k + 1) + i - 3 = 3 * k + i by omega]
      exact ih k h
/-- The other way: which pair a cell is of. -/
theorem cellsP_of (rs : List PV) (j : Nat) (u : Value) (h : (cellsP rs)[j]? = some u) : ∃ k i r, j = 3 * k + i ∧ i < 3 ∧ rs[k]? = some r ∧ r.cells[i]? = some u := by
  have hj := (List.getElem?_eq_some_iff.1 h).1
  rw [cellsP_len] at hj
  obtain ⟨r, hr⟩ : ∃ r, rs[j / 3]? = some r := ⟨_, List.getElem?_eq_getElem (by omega)⟩
  refine ⟨j / 3, j % 3, r, by omega, by omega, hr, ?_⟩
  rw [← cellsP_at rs (j / 3) r hr (j % 3) (by omega), show 3 * (j / 3) + j % 3 = j by omega, h]
theorem PsAt.cs {w : World} {A : Option Addr} {ps : List PV} (h : PsAt w A ps) : Cs w A (cellsP ps) := by
  refine ⟨fun e => ?_, fun ad e j u hu => ?_⟩
  · cases ps with
    | nil => rfl
    | cons p ps => obtain ⟨ad, h1, _⟩ := h 0 p rfl; rw [e] at h1; cases h1
  · obtain ⟨k, i, r, rfl, hi, hr, hc⟩ := cellsP_of ps j u hu
    obtain ⟨ad', h1, h2, _⟩ := h k r hr
    rw [e] at h1; injection h1 with h1; subst h1
    have hadd : ∀ i, ad.add (3 * k + i) = (if i = 0 then ad.add (k * 3) else ⟨(ad.add (k * 3)).block, (ad.add (k * 3)).off + i, none⟩) := by
      intro i
      by_cases h0 : i = 0
      · subst h0; rw [if_pos rfl, Nat.add_zero, Nat.mul_comm]
      · have h1 : (ad.add (k * 3)).block = ad.block := add_block ad _
        have h2 : (ad.add (k * 3)).off = ad.off + k * 3 := by
          unfold Addr.add; split
          · omega
          · rfl
        rw [if_neg h0, h1, h2]
        unfold Addr.add
        rw [if_neg (by omega), show ad.off + (3 * k + i) = ad.off + k * 3 + i by omega]
    have i3 : i = 0 ∨ i = 1 ∨ i = 2 := by omega
    rcases i3 with rfl | rfl | rfl
    · have hu' : u = .string r.key := by simpa [PV.cells] using hc.symm
      rw [hadd, hu']; simpa using h2.c0
    · have hu' : u = r.val := by simpa [PV.cells] using hc.symm
      rw [hadd, hu']; simpa using h2.c1
    · have hu' : u = .bool r.gone := by simpa [PV.cells] using hc.symm
      rw [hadd, hu']; simpa using h2.c2
theorem PV.ok_own {W : World} {base : Nat} {p : PV} (h : W.ownsRow base 5 1 p.val p.b.length (p.b.map bv)) : p.Ok W := by
  obtain ⟨A, c, hv, -, hb, hA, -⟩ := Bs.of_own h
  simp only [PV.val, Value.slice.injEq] at hv
  obtain ⟨rfl, -, rfl⟩ := hv
  exact ⟨hb, hA⟩
section
variable {w W W' : World} {v v' : Value} {qs : List PV}
end
end Go.Proofs.YtefpigakhhfcaaaDoor
end

/-! couranthelp.CopyPairs; slices.Clone over pairs. -/
section
set_option linter.unusedVariables false
set_option linter.unusedSimpArgs false
namespace Go.Proofs.YtefpigakhhfcaaaDoor
open Go.RowKit

theorem own_low {w : World} {b1 b2 e size n : Nat} {v : Value} {xs : List Value} (h : w.ownsRow b1 e size v n xs) (hb : b2 ≤ b1) : w.ownsRow b2 e size v n xs := by
  refine ⟨h.1, h.2.imp id ?_⟩
  rintro ⟨g, cap, cur, h1, h2, h3⟩
  exact ⟨g, cap, cur, h1, Nat.le_trans hb h2, h3⟩
end Go.Proofs.YtefpigakhhfcaaaDoor
end

/-! courantref22.at; keyed.place. -/
section
set_option linter.unusedVariables false
set_option linter.unusedSimpArgs false
namespace Go.Proofs.YtefpigakhhfcaaaDoor
open Go.RowKit

/-- Where a name stands, or would. -/
def atP (rs : List PV) (x : List UInt8) : Nat := (rs.takeWhile fun r => decide (kb r.key < x)).length
theorem atP_le (rs : List PV) (x : List UInt8) : atP rs x ≤ rs.length := (List.takeWhile_sublist _).length_le
theorem atP_eq {rs : List PV} {x : List UInt8} {k : Nat} (h : ∀ j r, j < k → rs[j]? = some r → kb r.key < x) (h2 : k = rs.length ∨ ∃ r, rs[k]? = some r ∧ ¬ kb r.key < x) (hk : k ≤ rs.length) : atP rs x = k := by
  unfold atP
  induction rs generalizing k with
  | nil => simp at hk; simp [hk]
  | cons q rs ih =>
    cases k with
    | zero =>
      rcases h2 with h2 | ⟨r, hr, hx⟩
      · simp at h2
      · simp at hr; subst hr
        simp [List.takeWhile_cons, hx]
    | succ k =>
      have hq := h 0 q (by omega) rfl
      rw [List.takeWhile_cons, if_pos (by simpa using hq), List.length_cons]
      rw [ih (k := k) (fun j r hj hr => h (j + 1) r (by omega) (by simpa using hr)) (by rcases h2 with h2 | ⟨r, hr, hx⟩; exact .inl (by simpa using h2); exact .inr ⟨r, by simpa using hr, hx⟩) (by simpa using hk)]
/-- Does a key stand there? -/
def isP (ps : List PV) (s : ByteArray) : Bool := match ps[atP ps (kb s)]? with | some p => decide (p.key = s) | none => false
end Go.Proofs.YtefpigakhhfcaaaDoor
end

/-! Parts of rows of pairs; what Put makes of lists (plain). -/
section
set_option linter.unusedVariables false
set_option linter.unusedSimpArgs false
namespace Go.Proofs.YtefpigakhhfcaaaDoor
open Go.RowKit

theorem add_add3 (ad : Addr) (k j : Nat) : (ad.add (k * 3)).add (j * 3) = ad.add ((k + j) * 3) := by
  obtain ⟨b, o, s⟩ := ad
  unfold Addr.add
  by_cases h1 : k = 0 <;> by_cases h2 : j = 0
  · subst h1; subst h2; simp
  · subst h1; simp [h2]
  · subst h2; simp [h1]
  · rw [if_neg (by omega), if_neg (by omega), if_neg (by omega)]
    simp only [Addr.mk.injEq, true_and, and_true]
    omega
theorem PsAt.take {w : World} {A : Option Addr} {ps : List PV} (h : PsAt w A ps) (k : Nat) : PsAt w A (ps.take k) := fun j p hp => by
  rw [List.getElem?_take] at hp
  split at hp
  · exact h j p hp
  · cases hp
theorem PsAt.drop {w : World} {A : Option Addr} {ps : List PV} (h : PsAt w A ps) (k : Nat) : PsAt w (A.map (·.add (k * 3))) (ps.drop k) := fun j p hp => by
  rw [List.getElem?_drop] at hp
  obtain ⟨ad, h1, h2, h3⟩ := h _ p hp
  refine ⟨ad.add (k * 3), by rw [h1]; rfl, ?_, h3⟩
  rw [add_add3]
  exact h2
theorem PsAt.nil (w : World) (A : Option Addr) : PsAt w A [] := fun j p hp => by simp at hp
/-- What Put does with one pair, by what is compared. -/
abbrev Core := ByteArray × List UInt8 × Bool
def coreAt (l : List Core) (x : ByteArray) : Nat := (l.takeWhile fun c => decide (kb c.1 < kb x)).length
def coreIs (l : List Core) (x : ByteArray) : Bool := match l[coreAt l x]? with | some c => decide (c.1 = x) | none => false
def put1 (l : List Core) (c : Core) : List Core := l.take (coreAt l c.1) ++ (if c.2.2 then [] else [(c.1, c.2.1, false)]) ++ l.drop (if coreIs l c.1 then coreAt l c.1 + 1 else coreAt l c.1)
def putC (l ms : List Core) : List Core := ms.foldl put1 l
theorem coreAt_map (ps : List PV) (x : ByteArray) : coreAt (ps.map PV.core) x = atP ps (kb x) := by
  unfold coreAt atP
  rw [List.takeWhile_map, List.length_map]
  rfl
theorem coreIs_map (ps : List PV) (x : ByteArray) : coreIs (ps.map PV.core) x = isP ps x := by
  unfold coreIs isP
  rw [coreAt_map, List.getElem?_map]
  cases ps[atP ps (kb x)]? <;> rfl
theorem atP_le' (ps : List PV) (x : List UInt8) : atP ps x ≤ ps.length := atP_le ps x
/-- The list that comes of it, with its own bytes. -/
def new1 (qs : List PV) (p q : PV) : List PV := qs.take (atP qs (kb p.key)) ++ (if p.gone then [] else [q]) ++ qs.drop (if isP qs p.key then atP qs (kb p.key) + 1 else atP qs (kb p.key))
theorem new1_core (qs : List PV) (p q : PV) (h : q.core = (p.key, p.b, false)) : (new1 qs p q).map PV.core = put1 (qs.map PV.core) p.core := by
  unfold new1 put1
  show _ = (qs.map PV.core).take (coreAt (qs.map PV.core) p.key) ++ (if p.gone then [] else [(p.key, p.b, false)]) ++ (qs.map PV.core).drop (if coreIs (qs.map PV.core) p.key then coreAt (qs.map PV.core) p.key + 1 else coreAt (qs.map PV.core) p.key)
  rw [coreAt_map, coreIs_map, List.map_append, List.map_append, List.map_take, List.map_drop]
  cases p.gone <;> simp [h]
theorem isP_lt {ps : List PV} {x : ByteArray} (h : isP ps x = true) : atP ps (kb x) < ps.length := by
  unfold isP at h
  split at h
  · rename_i p hp; exact (List.getElem?_eq_some_iff.1 hp).1
  · cases h
theorem new1_len (qs : List PV) (p q : PV) : (new1 qs p q).length ≤ qs.length + 1 := by
  unfold new1
  have := atP_le' qs (kb p.key)
  simp only [List.length_append, List.length_take, List.length_drop]
  split <;> split <;> simp <;> omega
theorem putC_snoc (l ms : List Core) (k : Nat) (c : Core) (h : ms[k]? = some c) : putC l (ms.take (k + 1)) = put1 (putC l (ms.take k)) c := by
  unfold putC
  rw [List.take_add_one, h, List.foldl_append]
  rfl
section
variable {w W3 W W' : World} {v v' : Value} {qs : List PV}
end
theorem mem_take {qs : List PV} {k : Nat} : ∀ r ∈ qs.take k, r ∈ qs := fun r h => List.mem_of_mem_take h
theorem mem_drop {qs : List PV} {k : Nat} : ∀ r ∈ qs.drop k, r ∈ qs := fun r h => List.mem_of_mem_drop h
end Go.Proofs.YtefpigakhhfcaaaDoor
end

/-! Rows of pairs that are written in place: append within the room, clear, copy; slices.Delete. -/
section
set_option linter.unusedVariables false
set_option linter.unusedSimpArgs false
namespace Go.Proofs.YtefpigakhhfcaaaDoor
open Go.RowKit

def splice (l : List Value) (o : Nat) (vs : List Value) : List Value := l.take o ++ vs ++ l.drop (o + vs.length)
theorem splice_len {l : List Value} {o : Nat} {vs : List Value} (h : o + vs.length ≤ l.length) : (splice l o vs).length = l.length := by
  simp only [splice, List.length_append, List.length_take, List.length_drop]; omega
def zerosP : List Value := [.string ⟨#[]⟩, .slice none 0 0, .bool false]
theorem cellsP_take (qs : List PV) (i : Nat) : (cellsP qs).take (i * 3) = cellsP (qs.take i) := by
  conv => lhs; rw [← List.take_append_drop i qs, cellsP_append]
  rcases Nat.le_total i qs.length with h | h
  · rw [List.take_left' (by rw [cellsP_len, List.length_take]; omega)]
  · rw [List.take_of_length_le (by rw [List.length_append, cellsP_len, cellsP_len, List.length_take, List.length_drop]; omega), List.drop_eq_nil_of_le h]
    simp [cellsP]
theorem take_cells {l : List Value} {qs : List PV} (h : l.take (3 * qs.length) = cellsP qs) (i : Nat) (hi : i ≤ qs.length) : l.take (i * 3) = cellsP (qs.take i) := by
  rw [← cellsP_take, ← h, List.take_take, Nat.min_eq_left (by omega)]
/-- What Delete leaves of the row. -/
theorem del_cells {l : List Value} {qs : List PV} {cap i : Nat} (h : l.take (3 * qs.length) = cellsP qs) (hl : l.length = cap * 3) (hc : qs.length ≤ cap) (hi : i < qs.length) :
    (splice (splice l (i * 3) (cellsP (qs.drop (i + 1)))) ((qs.length - 1) * 3) zerosP).take (3 * (qs.take i ++ qs.drop (i + 1)).length) = cellsP (qs.take i ++ qs.drop (i + 1)) := by
  have hlen : (qs.take i ++ qs.drop (i + 1)).length = qs.length - 1 := by simp only [List.length_append, List.length_take, List.length_drop]; omega
  have h1 : (splice l (i * 3) (cellsP (qs.drop (i + 1)))).take ((qs.length - 1) * 3) = cellsP (qs.take i ++ qs.drop (i + 1)) := by
    unfold splice
    rw [List.take_left' (by simp only [List.length_append, List.length_take, cellsP_len, List.length_drop]; omega), take_cells h i (by omega), cellsP_append]
  rw [hlen, Nat.mul_comm 3]
  unfold splice at *
  rw [List.append_assoc, List.take_left' (by simp only [List.length_append, List.length_take, cellsP_len, List.length_drop]; omega), h1]
/-- A builtin whose run is known, at a step of a region that draws; in a list of operations. -/
theorem step_append_run {w : World} {ops : Array Oper} {o : Oper} {a : Act} {K : Act → World → Prop} {Q : Exit → Act → World → Prop} {E : Prop} (hgd : o.guard = none) (s x : Operand) (t1 t2 : TypeId)
    (ho : o.op = .call { callee := .builtin .append, args := #[s, x], argTypes := #[t1, t2] }) (vs vx : Value) (hs : a.eval s = vs) (hx : a.eval x = vx) (v' : Value) (w' : World)
    (hrun : ∀ ty, (Builtin.append_ #[t1, t2] ty #[vs, vx]).run Tryd.prog w = .ok v' w') (h : K (a.put o.dst v') w') : if Region.wanted o (yielded ops a.tmps) = true then Oper.wp Tryd.prog o a w K Q else E := by
  have hw : Region.wanted o (yielded ops a.tmps) = true := by simp [Region.wanted, hgd]
  rw [if_pos hw]
  unfold Oper.wp
  simp [execOp, ho, resolve, invoke, builtin, hs, hx, hrun, Result.andThen]
  exact h
theorem step_copy_run {w : World} {ops : Array Oper} {o : Oper} {a : Act} {K : Act → World → Prop} {Q : Exit → Act → World → Prop} {E : Prop} (hgd : o.guard = none) (s x : Operand) (t1 t2 : TypeId)
    (ho : o.op = .call { callee := .builtin .copy, args := #[s, x], argTypes := #[t1, t2] }) (vs vx : Value) (hs : a.eval s = vs) (hx : a.eval x = vx) (v' : Value) (w' : World)
    (hrun : ∀ ty, (Builtin.copy_ #[t1, t2] ty #[vs, vx]).run Tryd.prog w = .ok v' w') (h : K (a.put o.dst v') w') : if Region.wanted o (yielded ops a.tmps) = true then Oper.wp Tryd.prog o a w K Q else E := by
  have hw : Region.wanted o (yielded ops a.tmps) = true := by simp [Region.wanted, hgd]
  rw [if_pos hw]
  unfold Oper.wp
  simp [execOp, ho, resolve, invoke, builtin, hs, hx, hrun, Result.andThen]
  exact h
end Go.Proofs.YtefpigakhhfcaaaDoor
end

/-! slices.Delete of one pair. -/
section
set_option linter.unusedVariables false
set_option linter.unusedSimpArgs false
namespace Go.Proofs.YtefpigakhhfcaaaDoor
open Go.RowKit

theorem cellsP_drop (qs : List PV) (i : Nat) : cellsP (qs.drop i) = (cellsP qs).drop (i * 3) := by
  have h := cellsP_append (qs.take i) (qs.drop i)
  rw [List.take_append_drop, ← cellsP_take] at h
  have h2 := List.take_append_drop (i * 3) (cellsP qs)
  exact (List.append_cancel_left (h2.trans h)).symm
theorem add_addN (ad : Addr) (k j : Nat) (hs : ad.spot = none) : (ad.add k).add j = ad.add (k + j) := by
  obtain ⟨b, o, s⟩ := ad
  simp only at hs
  subst hs
  unfold Addr.add
  by_cases h1 : k = 0 <;> by_cases h2 : j = 0
  · subst h1; subst h2; simp
  · subst h1; simp [h2]
  · subst h2; simp [h1]
  · rw [if_neg (by omega), if_neg (by omega), if_neg (by omega)]
    simp only [Addr.mk.injEq, true_and, and_true]
    omega
end Go.Proofs.YtefpigakhhfcaaaDoor
end

/-! slices.Insert of one pair: what it leaves (plain), its steps as run equations. -/
section
set_option linter.unusedVariables false
set_option linter.unusedSimpArgs false
namespace Go.Proofs.YtefpigakhhfcaaaDoor
open Go.RowKit

theorem cellsP_single (p : PV) : cellsP [p] = p.cells := by simp [cellsP]
/-- First what is moved, then the new one. -/
theorem ins_cells {l : List Value} {qs : List PV} {cap i : Nat} (p : PV) (h : l.take (3 * qs.length) = cellsP qs) (hl : l.length = cap * 3) (hc : qs.length + 1 ≤ cap) (hi : i ≤ qs.length) :
    (splice (splice l ((i + 1) * 3) (cellsP (qs.drop i))) (i * 3) p.cells).take (3 * (qs.take i ++ [p] ++ qs.drop i).length) = cellsP (qs.take i ++ [p] ++ qs.drop i) := by
  have hlen : (qs.take i ++ [p] ++ qs.drop i).length = qs.length + 1 := by simp only [List.length_append, List.length_take, List.length_drop, List.length_cons, List.length_nil]; omega
  have hp : p.cells.length = 3 := rfl
  have h1 : (splice l ((i + 1) * 3) (cellsP (qs.drop i))).take (i * 3) = cellsP (qs.take i) := by
    unfold splice
    rw [List.append_assoc, List.take_append_of_le_length (by rw [List.length_take]; omega), List.take_take, Nat.min_eq_left (by omega), take_cells h i hi]
  have h2 : (splice l ((i + 1) * 3) (cellsP (qs.drop i))).drop (i * 3 + p.cells.length) = cellsP (qs.drop i) ++ l.drop ((i + 1) * 3 + (cellsP (qs.drop i)).length) := by
    unfold splice
    rw [List.append_assoc, List.drop_left' (by rw [List.length_take, hp]; omega)]
  rw [hlen]
  unfold splice at h1 h2 ⊢
  rw [h1, h2, ← List.append_assoc, ← cellsP_single p, ← cellsP_append, ← cellsP_append, List.take_left' (by rw [cellsP_len, hlen])]
/-- First the new one, then what is moved, from elsewhere. -/
theorem ins_cells2 {l : List Value} {qs : List PV} {cap i : Nat} (p : PV) (h : l.take (i * 3) = cellsP (qs.take i)) (hl : l.length = cap * 3) (hc : qs.length + 1 ≤ cap) (hi : i ≤ qs.length) :
    (splice (splice l (i * 3) p.cells) ((i + 1) * 3) (cellsP (qs.drop i))).take (3 * (qs.take i ++ [p] ++ qs.drop i).length) = cellsP (qs.take i ++ [p] ++ qs.drop i) := by
  have hlen : (qs.take i ++ [p] ++ qs.drop i).length = qs.length + 1 := by simp only [List.length_append, List.length_take, List.length_drop, List.length_cons, List.length_nil]; omega
  have hp : p.cells.length = 3 := rfl
  have h1 : (splice l (i * 3) p.cells).take ((i + 1) * 3) = cellsP (qs.take i ++ [p]) := by
    unfold splice
    rw [List.take_left' (by rw [List.length_append, List.length_take, hp]; omega), h, cellsP_append, cellsP_single]
  rw [hlen]
  have h9 : splice (splice l (i * 3) p.cells) ((i + 1) * 3) (cellsP (qs.drop i)) = cellsP (qs.take i ++ [p]) ++ cellsP (qs.drop i) ++ (splice l (i * 3) p.cells).drop ((i + 1) * 3 + (cellsP (qs.drop i)).length) := by
    conv => lhs; unfold splice
    rw [show List.take (i * 3) l ++ p.cells ++ List.drop (i * 3 + p.cells.length) l = splice l (i * 3) p.cells from rfl, h1]
  rw [h9, ← cellsP_append, List.take_left' (by rw [cellsP_len, hlen])]
end Go.Proofs.YtefpigakhhfcaaaDoor
end

/-! slices.Insert of one pair. -/
section
set_option linter.unusedVariables false
set_option linter.unusedSimpArgs false
namespace Go.Proofs.YtefpigakhhfcaaaDoor
open Go.RowKit

theorem nmin_r {a b : Nat} (h : b ≤ a) : Nat.min a b = b := Nat.min_eq_right h
theorem nmin_l {a b : Nat} (h : a ≤ b) : Nat.min a b = a := Nat.min_eq_left h
theorem pcells_one (p : PV) : ∀ u ∈ p.cells, u.oneCell' = true := by
  intro u hu
  simp only [PV.cells, List.mem_cons, List.not_mem_nil, or_false] at hu
  rcases hu with rfl | rfl | rfl <;> rfl
end Go.Proofs.YtefpigakhhfcaaaDoor
end

/-! slices.Values over pairs, in order. -/
section
set_option linter.unusedVariables false
set_option linter.unusedSimpArgs false
namespace Go.Proofs.YtefpigakhhfcaaaDoor
open Go.RowKit Go.Sort

/-- Pairs whose cells can be read. -/
def PsC (w : World) (A : Option Addr) (ps : List PV) : Prop := ∀ (j : Nat) p, ps[j]? = some p → ∃ ad, A = some ad ∧ PC w (ad.add (j * 3)) p
theorem PsAt.c {w : World} {A : Option Addr} {ps : List PV} (h : PsAt w A ps) : PsC w A ps := fun j p hp => by
  obtain ⟨ad, h1, h2, _⟩ := h j p hp
  exact ⟨ad, h1, h2⟩
theorem PsC.same {w w' : World} {A : Option Addr} {ps : List PV} (h : PsC w A ps) (hk : ∀ k, rdOf A k → w'.heap[k]? = w.heap[k]?) : PsC w' A ps := by
  intro j p hp
  obtain ⟨ad, rfl, hc⟩ := h j p hp
  have hb : w'.heap[(ad.add (j * 3)).block]? = w.heap[(ad.add (j * 3)).block]? := by rw [add_block]; exact hk _ ⟨ad, rfl, rfl⟩
  exact ⟨ad, rfl, ⟨(World.cell?_of_block hb).trans hc.c0, (World.cell?_of_block (a := ⟨(ad.add (j * 3)).block, (ad.add (j * 3)).off + 1, none⟩) hb).trans hc.c1, (World.cell?_of_block (a := ⟨(ad.add (j * 3)).block, (ad.add (j * 3)).off + 2, none⟩) hb).trans hc.c2⟩⟩
def encP (p : PV) : Array Value := #[.agg #[.string p.key, .slice p.A p.b.length p.c, .bool p.gone]]
end Go.Proofs.YtefpigakhhfcaaaDoor
end
