import Derived.Test.YtcifhfdjigfeiaaGreatDoorVh
import Derived.Test.YtcifhfdjigfeiaaGreatDoorZt
/-! Files as a disk: what is under each name; each operation in these words. -/
section
set_option linter.unusedVariables false
set_option linter.unusedSimpArgs false
namespace Go.Proofs.YtcifhfdjigfeiaaGreatDoor
open Go.RowKit

/-- A file's bytes, and how many of them are safe. -/
abbrev FV := List UInt8 × Nat
abbrev Disk := ByteArray → Option FV
def PF.fv (p : PF) : FV := (p.b, p.safe)
def lk (ps : List PF) : Disk := fun s => (ps.find? fun p => decide (p.name = s)).map PF.fv
def Disk.put (d : Disk) (s : ByteArray) (x : Option FV) : Disk := fun t => if t = s then x else d t
theorem Disk.put_same (d : Disk) (s : ByteArray) (x : Option FV) : d.put s x s = x := by simp [Disk.put]
theorem Disk.put_ne (d : Disk) {s t : ByteArray} (x : Option FV) (h : t ≠ s) : d.put s x t = d t := by simp [Disk.put, h]
theorem lk_nil : lk [] = fun _ => none := rfl
theorem lk_cons (p : PF) (ps : List PF) : lk (p :: ps) = (lk ps).put p.name (some p.fv) := by
  funext s
  unfold lk Disk.put
  by_cases h : p.name = s
  · simp [h]
  · rw [List.find?_cons_of_neg (by simpa using h), if_neg fun e => h e.symm]
theorem lk_none {ps : List PF} {s : ByteArray} : lk ps s = none ↔ ∀ p ∈ ps, p.name ≠ s := by
  unfold lk
  rw [Option.map_eq_none_iff, List.find?_eq_none]
  simp
theorem lk_split {ps : List PF} {s : ByteArray} {v : FV} (h : lk ps s = some v) : ∃ l1 p l2, ps = l1 ++ p :: l2 ∧ p.name = s ∧ p.fv = v ∧ ∀ q ∈ l1, q.name ≠ s := by
  induction ps with
  | nil => cases h
  | cons p ps ih =>
    rw [lk_cons] at h
    by_cases hp : s = p.name
    · subst hp
      rw [Disk.put_same] at h
      exact ⟨[], p, ps, rfl, rfl, Option.some.inj h, fun q hq => by cases hq⟩
    · rw [Disk.put_ne _ _ hp] at h
      obtain ⟨l1, q, l2, rfl, h2, h3, h4⟩ := ih h
      exact ⟨p :: l1, q, l2, rfl, h2, h3, fun r hr => by
        rcases List.mem_cons.1 hr with rfl | hr
        · exact fun e => hp e.symm
        · exact h4 r hr⟩
theorem lk_mid (l1 l2 : List PF) (p : PF) (h : ∀ q ∈ l1, q.name ≠ p.name) : lk (l1 ++ p :: l2) = (lk (l1 ++ l2)).put p.name (some p.fv) := by
  induction l1 with
  | nil => exact lk_cons p l2
  | cons q l1 ih =>
    rw [List.cons_append, lk_cons, ih fun r hr => h r (List.mem_cons_of_mem _ hr), List.cons_append, lk_cons]
    funext t
    unfold Disk.put
    have h1 := h q List.mem_cons_self
    by_cases h2 : t = q.name
    · rw [if_pos h2, if_neg (by rw [h2]; exact h1), if_pos h2]
    · rw [if_neg h2, if_neg h2]
theorem lk_end (ps : List PF) (p : PF) (h : ∀ q ∈ ps, q.name ≠ p.name) : lk (ps ++ [p]) = (lk ps).put p.name (some p.fv) := by
  rw [lk_mid ps [] p h, List.append_nil]
theorem nodup_mid {l1 l2 : List PF} {p : PF} (h : ((l1 ++ p :: l2).map PF.name).Nodup) : (∀ q ∈ l1 ++ l2, q.name ≠ p.name) := by
  rw [List.map_append, List.map_cons, List.nodup_append, List.nodup_cons] at h
  obtain ⟨h1, ⟨h2, h3⟩, h4⟩ := h
  intro q hq e
  rcases List.mem_append.1 hq with hq | hq
  · exact h4 _ (List.mem_map_of_mem hq) _ List.mem_cons_self e
  · exact h2 (e ▸ List.mem_map_of_mem hq)
theorem lk_out {l1 l2 : List PF} {p : PF} (h : ((l1 ++ p :: l2).map PF.name).Nodup) : lk (l1 ++ l2) = (lk (l1 ++ p :: l2)).put p.name none := by
  have h1 := nodup_mid h
  rw [lk_mid l1 l2 p fun q hq => h1 q (List.mem_append_left _ hq)]
  funext t
  unfold Disk.put
  by_cases h2 : t = p.name
  · subst h2; rw [if_pos rfl]; exact lk_none.2 h1
  · rw [if_neg h2, if_neg h2]
theorem lk_swap {l1 l2 : List PF} {p q : PF} (h : ((l1 ++ p :: l2).map PF.name).Nodup) (hq : q.name = p.name) : lk (l1 ++ q :: l2) = (lk (l1 ++ p :: l2)).put p.name (some q.fv) := by
  have h1 := nodup_mid h
  rw [lk_mid l1 l2 p fun r hr => h1 r (List.mem_append_left _ hr), lk_mid l1 l2 q fun r hr => hq ▸ h1 r (List.mem_append_left _ hr), hq]
  funext t
  unfold Disk.put
  by_cases h2 : t = p.name
  · rw [if_pos h2, if_pos h2]
  · rw [if_neg h2, if_neg h2, if_neg h2]
/-- What an operation leaves. -/
def DPost (w : World) (F M : Nat) (ps : List PF) (er lim arm : Int) (dn : Bool) (d : Disk) (e : Ending) (w' : World) : Prop :=
  e = .returned (.int .i64 er) ∧ ∃ ps' clock', Went w F M ps ps' clock' lim arm dn w' ∧ lk ps' = d
def oldB (x : Option FV) : FV := x.getD ([], 0)
section
variable {w : World} {F M : Nat} {ps : List PF} {clock : Nat} {lim arm : Int}
theorem append_D (s : ByteArray) (A : Option Addr) (n c : Nat) (xs : List UInt8) (h : FilesAt w F M ps clock lim arm false) (hs : s.size ≤ 140737488355328) (hf : fullB s = true) (hu : usedL ps ≤ 4194304) (hx : Bs w A xs) (hn : n = xs.length) (hA : A = none → c = 0) (hfit : Fits lim ps n) (hM : ∀ ad, A = some ad → xs = [] ∨ ad.block ≠ M) :
    Calls Tryz.prog 44 #[.pointer (some ⟨F, 0, none⟩), .string s, .slice A n c] w (DPost w F M ps (hitE arm) lim (decA arm) (decide (arm = 1)) ((lk ps).put s (some ((oldB (lk ps s)).1 ++ xs, (oldB (lk ps s)).2)))) := by
  cases hl : lk ps s with
  | none =>
    have hno := lk_none.1 hl
    refine (append_new s A n c w F M lim arm ps clock xs hno hs hf h hu hx hn hA hfit hM).mono ?_
    rintro e w' ⟨B, v, rfl, hw⟩
    exact ⟨rfl, _, _, hw, by rw [lk_end _ _ hno]; rfl⟩
  | some v =>
    obtain ⟨l1, p, l2, rfl, rfl, rfl, -⟩ := lk_split hl
    refine (append_old A n c w F M lim arm l1 l2 p clock xs hs hf h hu hx hn hA hfit).mono ?_
    rintro e w' ⟨v, rfl, hw⟩
    exact ⟨rfl, _, _, hw, by rw [lk_swap h.names (q := { p with b := p.b ++ xs, val := v }) rfl]; rfl⟩
theorem sync_D (s : ByteArray) (v : FV) (h : FilesAt w F M ps clock lim arm false) (hl : lk ps s = some v) :
    Calls Tryz.prog 45 #[.pointer (some ⟨F, 0, none⟩), .string s] w (DPost w F M ps (hitE arm) lim (decA arm) (decide (arm = 1)) (if arm = 1 then lk ps else (lk ps).put s (some (v.1, v.1.length)))) := by
  obtain ⟨l1, p, l2, rfl, rfl, rfl, -⟩ := lk_split hl
  by_cases ha : arm = 1
  · subst ha
    refine (sync_hit w F M lim l1 l2 p clock h).mono ?_
    rintro e w' ⟨rfl, hw⟩
    exact ⟨rfl, _, _, hw, by rw [if_pos rfl]⟩
  · refine (sync_ok w F M lim arm l1 l2 p clock ha h).mono ?_
    rintro e w' ⟨rfl, hw⟩
    rw [decide_eq_false ha, if_neg ha]
    exact ⟨by rw [hitE, if_neg ha], _, _, hw, by rw [lk_swap h.names (q := { p with safe := p.b.length }) rfl]; rfl⟩
theorem trunc_D (s : ByteArray) (v : FV) (n : Nat) (h : FilesAt w F M ps clock lim arm false) (hl : lk ps s = some v) (hn : n ≤ v.1.length) :
    Calls Tryz.prog 29 #[.pointer (some ⟨F, 0, none⟩), .string s, .int .i64 (n : Nat)] w (DPost w F M ps (hitE arm) lim (decA arm) (decide (arm = 1)) (if arm = 1 then lk ps else (lk ps).put s (some (v.1.take n, min v.2 n)))) := by
  obtain ⟨l1, p, l2, rfl, rfl, rfl, -⟩ := lk_split hl
  by_cases ha : arm = 1
  · subst ha
    refine (trunc_hit w F M lim l1 l2 p clock n hn h).mono ?_
    rintro e w' ⟨rfl, hw⟩
    exact ⟨rfl, _, _, hw, by rw [if_pos rfl]⟩
  · rw [decide_eq_false ha, if_neg ha, hitE, if_neg ha]
    by_cases hm : n < p.safe
    · refine (trunc_lt w F M lim arm l1 l2 p clock n hn hm ha h).mono ?_
      rintro e w' ⟨v, rfl, hw⟩
      exact ⟨rfl, _, _, hw, by rw [lk_swap h.names (q := { p with b := p.b.take n, safe := min p.safe n, val := v }) rfl]; rfl⟩
    · refine (trunc_ge w F M lim arm l1 l2 p clock n hn hm ha h).mono ?_
      rintro e w' ⟨v, rfl, hw⟩
      exact ⟨rfl, _, _, hw, by rw [lk_swap h.names (q := { p with b := p.b.take n, safe := min p.safe n, val := v }) rfl]; rfl⟩
theorem remove_D (s : ByteArray) (v : FV) (h : FilesAt w F M ps clock lim arm false) (hl : lk ps s = some v) :
    Calls Tryz.prog 26 #[.pointer (some ⟨F, 0, none⟩), .string s] w (DPost w F M ps (hitE arm) lim (decA arm) (decide (arm = 1)) (if arm = 1 then lk ps else (lk ps).put s none)) := by
  obtain ⟨l1, p, l2, rfl, rfl, rfl, -⟩ := lk_split hl
  refine (remove_any w F M lim arm l1 l2 p clock h).mono ?_
  intro e w' hp
  by_cases ha : arm = 1
  · rw [if_pos ha] at hp
    obtain ⟨rfl, hw⟩ := hp
    rw [decide_eq_true ha, if_pos ha, hitE, if_pos ha]
    exact ⟨rfl, _, _, hw, rfl⟩
  · rw [if_neg ha] at hp
    obtain ⟨rfl, hw⟩ := hp
    rw [decide_eq_false ha, if_neg ha, hitE, if_neg ha]
    exact ⟨rfl, _, _, hw, lk_out h.names⟩
theorem remove_noD (s : ByteArray) (h : FilesAt w F M ps clock lim arm false) (hl : lk ps s = none) : Calls Tryz.prog 26 #[.pointer (some ⟨F, 0, none⟩), .string s] w (Ret 8 w) :=
  remove_no _ _ 8 rfl w (Lib.hid (there_none s w F M lim arm ps clock h (lk_none.1 hl)))
theorem read_D (s : ByteArray) (v : FV) (h : FilesAt w F M ps clock lim arm false) (hl : lk ps s = some v) : Calls Tryz.prog 27 #[.pointer (some ⟨F, 0, none⟩), .string s] w (ReadPost w F M v.1 0) := by
  obtain ⟨l1, p, l2, rfl, rfl, rfl, -⟩ := lk_split hl
  exact read_some w F M lim arm l1 l2 p clock h
theorem read_noD (s : ByteArray) (h : FilesAt w F M ps clock lim arm false) (hl : lk ps s = none) : Calls Tryz.prog 27 #[.pointer (some ⟨F, 0, none⟩), .string s] w (ReadPost w F M [] 8) :=
  read_none s w F M lim arm ps clock h (lk_none.1 hl)
theorem rename_D (s t : ByteArray) (v : FV) (h : FilesAt w F M ps clock lim arm false) (hl : lk ps s = some v) (hne : t ≠ s) (hs : t.size ≤ 140737488355328) (hf : fullB t = true) :
    Calls Tryz.prog 40 #[.pointer (some ⟨F, 0, none⟩), .string s, .string t] w (DPost w F M ps (hitE arm) lim (decA arm) (decide (arm = 1)) (if arm = 1 then lk ps else ((lk ps).put s none).put t (some v))) := by
  obtain ⟨l1, p, l2, rfl, rfl, rfl, -⟩ := lk_split hl
  by_cases ha : arm = 1
  · subst ha
    refine (rename_hit w F M lim l1 l2 p t clock hs hf h).mono ?_
    rintro e w' ⟨rfl, hw⟩
    exact ⟨rfl, _, _, hw, by rw [if_pos rfl]⟩
  · rw [decide_eq_false ha, if_neg ha, hitE, if_neg ha]
    have ho := lk_out h.names
    cases hl2 : lk (l1 ++ l2) t with
    | none =>
      have hno := lk_none.1 hl2
      refine (rename_new w F M lim arm l1 l2 p t clock ha hs hf hno h).mono ?_
      rintro e w' ⟨rfl, hw⟩
      refine ⟨rfl, _, _, hw, ?_⟩
      rw [lk_end _ (setN p t clock) hno, ho]
      rfl
    | some v2 =>
      obtain ⟨m1, q, m2, hsp, rfl, rfl, -⟩ := lk_split hl2
      refine (rename_over w F M lim arm l1 l2 m1 m2 p q clock ha hs hf hsp h).mono ?_
      rintro e w' ⟨rfl, hw⟩
      refine ⟨rfl, _, _, hw, ?_⟩
      have hnd : ((m1 ++ q :: m2).map PF.name).Nodup := by
        rw [← hsp]
        have h9 := h.names
        rw [List.map_append, List.map_cons] at h9
        rw [List.map_append]
        exact (List.nodup_append.1 h9).1 |> fun g1 => List.nodup_append.2 ⟨g1, (List.nodup_cons.1 (List.nodup_append.1 h9).2.1).2, fun a ha b hb => (List.nodup_append.1 h9).2.2 a ha b (List.mem_cons_of_mem _ hb)⟩
      rw [lk_swap hnd (q := setN p q.name q.born) rfl, ← hsp, ho]
      rfl
end
/-- A fall, in these words. -/
def FellV (x y : Option FV) : Prop := (x = none ∧ y = none) ∨ ∃ b s k, x = some (b, s) ∧ s ≤ k ∧ k ≤ b.length ∧ y = some (b.take k, k)
theorem All2.fell {ps qs : List PF} (h : All2 Fell ps qs) : ∀ s, FellV (lk ps s) (lk qs s) := by
  induction ps generalizing qs with
  | nil =>
    obtain rfl : qs = [] := List.eq_nil_of_length_eq_zero h.1.symm
    exact fun s => .inl ⟨rfl, rfl⟩
  | cons p ps ih =>
    cases qs with
    | nil => have := h.1; simp at this
    | cons q qs =>
      have h1 := h.2 0 p q rfl rfl
      have h2 := ih (qs := qs) ⟨by have := h.1; simpa using this, fun i a b ha hb => h.2 (i + 1) a b ha hb⟩
      intro s
      rw [lk_cons, lk_cons, h1.name]
      by_cases hs : s = p.name
      · subst hs
        rw [Disk.put_same, Disk.put_same]
        obtain ⟨k, h3, h4, h5, h6⟩ := h1.some_
        exact .inr ⟨p.b, p.safe, k, rfl, h3, h4, by rw [PF.fv, h5, h6]⟩
      · rw [Disk.put_ne _ _ hs, Disk.put_ne _ _ hs]
        exact h2 s
theorem len_sub {S l : List ByteArray} (hn : l.Nodup) (hs : ∀ x ∈ l, x ∈ S) : l.length ≤ S.length := by
  induction l generalizing S with
  | nil => simp
  | cons x l ih =>
    rw [List.nodup_cons] at hn
    obtain ⟨a, b, rfl⟩ := List.append_of_mem (hs x List.mem_cons_self)
    have h1 := ih (S := a ++ b) hn.2 fun y hy => by
      have h2 := hs y (List.mem_cons_of_mem _ hy)
      rw [List.mem_append, List.mem_cons] at h2
      rw [List.mem_append]
      rcases h2 with h2 | h2 | h2
      · exact .inl h2
      · exact absurd hy (h2 ▸ hn.1)
      · exact .inr h2
    rw [List.length_append] at h1
    rw [List.length_cons, List.length_append, List.length_cons]; omega
def szV (x : Option FV) : Nat := (oldB x).1.length
theorem sum_put {S : List ByteArray} {d : Disk} {s : ByteArray} {v : FV} (hS : S.Nodup) (hs : s ∈ S) (hd : d s = none) : (S.map fun t => szV (d.put s (some v) t)).sum = (S.map fun t => szV (d t)).sum + v.1.length := by
  induction S with
  | nil => cases hs
  | cons x S ih =>
    rw [List.nodup_cons] at hS
    simp only [List.map_cons, List.sum_cons]
    by_cases hx : s = x
    · subst hx
      rw [Disk.put_same, hd]
      have : (S.map fun t => szV (d.put s (some v) t)) = (S.map fun t => szV (d t)) := by
        apply List.map_congr_left
        intro t ht
        rw [Disk.put_ne _ _ (fun e => hS.1 (by rw [← e]; exact ht))]
      rw [this]
      simp [szV, oldB]; omega
    · have h1 := ih hS.2 ((List.mem_cons.1 hs).resolve_left hx)
      rw [h1, Disk.put_ne _ _ fun e => hx e.symm]; omega
/-- How many bytes there are, name by name. -/
theorem used_sum {S : List ByteArray} {ps : List PF} (hS : S.Nodup) (hn : (ps.map PF.name).Nodup) (hs : ∀ p ∈ ps, p.name ∈ S) : usedL ps = (S.map fun t => szV (lk ps t)).sum := by
  induction ps with
  | nil =>
    have : (S.map fun t => szV (lk [] t)) = S.map fun _ => 0 := rfl
    rw [this]
    have : ∀ (l : List ByteArray), (l.map fun _ => 0).sum = 0 := by
      intro l; induction l with
      | nil => rfl
      | cons a l ih => simp [ih]
    rw [this]; rfl
  | cons p ps ih =>
    rw [List.map_cons, List.nodup_cons] at hn
    have h1 := ih hn.2 fun q hq => hs q (List.mem_cons_of_mem _ hq)
    have h2 : lk ps p.name = none := lk_none.2 fun q hq e => hn.1 (e ▸ List.mem_map_of_mem hq)
    rw [lk_cons, sum_put hS (hs p List.mem_cons_self) h2, ← h1]
    simp [usedL, PF.fv]; omega
theorem lk_mem {ps : List PF} {p : PF} (hp : p ∈ ps) : lk ps p.name ≠ none := fun e => lk_none.1 e p hp rfl
end Go.Proofs.YtcifhfdjigfeiaaGreatDoor
end

/-! A store with its files, whatever hits them; compact.Open of files that are there. -/
section
set_option linter.unusedVariables false
set_option linter.unusedSimpArgs false
namespace Go.Proofs.YtcifhfdjigfeiaaGreatDoor
open Go.RowKit

/-- A store and its files. -/
structure CS (w : World) (T F M : Nat) (nm : ByteArray) (ps : List PF) (clock : Nat) (lim arm : Int) (dn : Bool) (v : Value) (qs : List PV) (next size : Nat) (dead : Bool) : Prop where
  f : FilesAt w F M ps clock lim arm dn
  sb : SB w T F nm v next size dead
  row : w.ownsRow 0 53 3 v qs.length (cellsP qs)
  own : ∀ q ∈ qs, w.ownsRow 0 5 1 q.val q.b.length (q.b.map bv)
  nT : T ∉ foot F M ps
  nv : ∀ k, v.ownBlock = some k → k ∉ foot F M ps
  nq : ∀ q ∈ qs, ∀ k, q.val.ownBlock = some k → k ∉ foot F M ps
/-- What a call on a store may turn. -/
structure Moved (w : World) (T F M : Nat) (ps ps' : List PF) (w' : World) : Prop where
  kept : Kept (fun k => k = T ∨ k ∈ foot F M ps) w w'
  feet : ∀ k ∈ foot F M ps', k ∈ foot F M ps ∨ w.heap.size ≤ k
theorem Moved.refl (w : World) (T F M : Nat) (ps : List PF) : Moved w T F M ps ps w := ⟨Kept.refl _ _, fun k h => .inl h⟩
theorem Moved.trans {w w1 w2 : World} {T F M : Nat} {p1 p2 p3 : List PF} (h : Moved w T F M p1 p2 w1) (k : Moved w1 T F M p2 p3 w2) : Moved w T F M p1 p3 w2 :=
  ⟨h.kept.trans k.kept fun i hi e => by
    rcases e with e | e
    · exact .inl e
    · rcases h.feet i e with e | e
      · exact .inr e
      · omega, fun i hi => by
    rcases k.feet i hi with e | e
    · exact h.feet i e
    · exact .inr (Nat.le_trans h.kept.size e)⟩
theorem Moved.stay {w w1 : World} {T F M : Nat} {ps : List PF} (h : Kept (fun _ => False) w w1) : Moved w T F M ps ps w1 := ⟨h.mono fun _ _ e => e.elim, fun k e => .inl e⟩
theorem Moved.turn {w w1 : World} {T F M : Nat} {ps : List PF} (h : Kept (fun k => k = T) w w1) : Moved w T F M ps ps w1 := ⟨h.mono fun _ _ e => .inl e, fun k e => .inl e⟩
theorem Moved.went {w w1 : World} {T F M : Nat} {ps ps' : List PF} {c : Nat} {l a : Int} {dn : Bool} (h : Went w F M ps ps' c l a dn w1) : Moved w T F M ps ps' w1 := ⟨h.kept.mono fun _ _ e => .inr e, h.feet⟩
section
variable {w w' : World} {T F M : Nat} {nm : ByteArray} {ps ps' : List PF} {clock clock' : Nat} {lim lim' arm arm' : Int} {dn dn' : Bool} {v : Value} {qs : List PV} {next size : Nat} {dead : Bool}
theorem CS.tlt (h : CS w T F M nm ps clock lim arm dn v qs next size dead) : T < w.heap.size := (Array.getElem?_eq_some_iff.1 (show w.heap[T]? = _ from h.sb)).1
theorem CS.stay (h : CS w T F M nm ps clock lim arm dn v qs next size dead) (hk : Kept (fun _ => False) w w') : CS w' T F M nm ps clock lim arm dn v qs next size dead :=
  ⟨h.f.kept hk (by simp), h.sb.kept' hk, own_kept h.row hk (by simp), fun q hq => own_kept (h.own q hq) hk (by simp), h.nT, h.nv, h.nq⟩
theorem CS.went (h : CS w T F M nm ps clock lim arm dn v qs next size dead) (g : Went w F M ps ps' clock' lim' arm' dn' w') : CS w' T F M nm ps' clock' lim' arm' dn' v qs next size dead :=
  ⟨g.at_, h.sb.kept g.kept h.nT, own_kept h.row g.kept fun k e e2 => h.nv k e e2, fun q hq => own_kept (h.own q hq) g.kept fun k e e2 => h.nq q hq k e e2,
   fun hm => (g.feet T hm).elim h.nT fun h2 => by have := h.tlt; omega,
   fun k e hm => (g.feet k hm).elim (h.nv k e) fun h2 => by have := own_lt' h.row k e; omega,
   fun q hq k e hm => (g.feet k hm).elim (h.nq q hq k e) fun h2 => by have := own_lt' (h.own q hq) k e; omega⟩
theorem CS.turn {next' size' : Nat} {dead' : Bool} (h : CS w T F M nm ps clock lim arm dn v qs next size dead) (hs : SB w' T F nm v next' size' dead') (hk : Kept (fun k => k = T) w w') : CS w' T F M nm ps clock lim arm dn v qs next' size' dead' :=
  ⟨h.f.kept hk (fun k hm e => h.nT (e ▸ hm)), hs, own_kept h.row hk fun k e e2 => h.sb.noRow h.row (by decide) (e2 ▸ e), fun q hq => own_kept (h.own q hq) hk fun k e e2 => h.sb.noRow (h.own q hq) (by decide) (e2 ▸ e), h.nT, h.nv, h.nq⟩
theorem CS.at_ (h : CS w T F M nm ps clock lim arm dn v qs next size dead) : ∃ A c, v = .slice A qs.length c ∧ (A = none → c = 0) ∧ qs.length ≤ c ∧ PsAt w A qs := by
  obtain ⟨A, c, h1, h2, h3, -, h4, -⟩ := row_form h.row fun q hq => PV.ok_own (h.own q hq)
  exact ⟨A, c, h1, h2, h3, h4⟩
theorem CS.pairs {w1 : World} {v' : Value} {qs' : List PV} (h : CS w T F M nm ps clock lim arm dn v qs next size dead) (hp : OwnP w w1 v' qs') : CS (w1.setCell ⟨T, 2, none⟩ v') T F M nm ps clock lim arm dn v' qs' next size dead ∧ Kept (fun k => k = T) w (w1.setCell ⟨T, 2, none⟩ v') := by
  have hk : Kept (fun k => k = T) w1 (w1.setCell ⟨T, 2, none⟩ v') := kF w1 T 2 v'
  have hk' : Kept (fun k => k = T) w (w1.setCell ⟨T, 2, none⟩ v') := (hp.kept.mono fun _ _ h => h.elim).trans' hk
  have ht := h.tlt
  refine ⟨⟨h.f.kept hk' (fun k hm e => h.nT (e ▸ hm)), (h.sb.kept' hp.kept).s2 v', own_low (own_kept hp.row hk fun k e e2 => by have := own_ge hp.row k e; omega) (Nat.zero_le _), fun q hq => own_low (own_kept (hp.own q hq) hk fun k e e2 => by have := own_ge (hp.own q hq) k e; omega) (Nat.zero_le _), h.nT, fun k e hm => ?_, fun q hq k e hm => ?_⟩, hk'⟩
  · have h1 := own_ge hp.row k e; have h2 := h.f.lt k hm; omega
  · have h1 := own_ge (hp.own q hq) k e; have h2 := h.f.lt k hm; omega
end
/-- A store's file: the frames, and some first bytes of one more. -/
structure KIs (x : Option FV) (parts : List (List PV)) (t : List UInt8) : Prop where
  is : (x = none ∧ parts = [] ∧ t = []) ∨ ∃ sf, x = some (frsL 0 (parts.map bytesP) ++ t, sf)
  tail : ∃ (y : List UInt8) (m : Nat), y.length ≤ 32768 ∧ m < (frameB parts.length y).length ∧ t = (frameB parts.length y).take m
  fit : ∀ l ∈ parts, l.length ≤ 10000 ∧ (bytesP l).length ≤ 32768 ∧ ∀ p ∈ l, p.key.size ≤ 32768 ∧ p.b.length ≤ 32768
  few : parts.length ≤ 1000000
  flat : parts.flatten.length ≤ 300000
/-- What Open leaves there. -/
def openD (d : Disk) (nk nt : ByteArray) (parts : List (List PV)) : Disk :=
  match d nk with
  | none => d.put nt none
  | some v => (d.put nt none).put nk (some (frsL 0 (parts.map bytesP), min v.2 (frsL 0 (parts.map bytesP)).length))
def OpenPost (w : World) (F M : Nat) (nm : ByteArray) (ps : List PF) (lim arm : Int) (parts : List (List PV)) (e : Ending) (w' : World) : Prop :=
  (e = .returned (.tuple #[.pointer none, .int .i64 13]) ∧ arm ≠ 0 ∧ ∃ ps' clock' arm', Went w F M ps ps' clock' lim arm' true w' ∧ (lk ps' = lk ps ∨ lk ps' = (lk ps).put (nm ++ dotT) none)) ∨
  (∃ T ps' clock' arm' v qs, e = .returned (.tuple #[.pointer (some ⟨T, 0, none⟩), .int .i64 0]) ∧ w.heap.size ≤ T ∧ CS w' T F M nm ps' clock' lim arm' false v qs parts.length (frsL 0 (parts.map bytesP)).length false ∧ Kept (fun k => k ∈ foot F M ps) w w' ∧ (∀ k ∈ foot F M ps', k ∈ foot F M ps ∨ w.heap.size ≤ k) ∧
    (∀ k, v.ownBlock = some k → w.heap.size ≤ k) ∧ lk ps' = openD (lk ps) (nm ++ dotK) (nm ++ dotT) parts ∧ qs.map PV.core = foldP parts ∧ (arm = 0 → arm' = 0))
theorem decA0 {arm : Int} (h : arm = 0) : decA arm = 0 := by rw [decA, if_pos h]
end Go.Proofs.YtcifhfdjigfeiaaGreatDoor
end

/-! compact.Open of files that are there, walked. -/
section
set_option linter.unusedVariables false
set_option linter.unusedSimpArgs false
namespace Go.Proofs.YtcifhfdjigfeiaaGreatDoor
open Go.RowKit

theorem RSt.cs {w W : World} {T F M : Nat} {nm : ByteArray} {ps : List PF} {clock : Nat} {lim arm : Int} {v : Value} {qs : List PV} {next size : Nat} (h : RSt w W T F nm v qs next size false) (hf : FilesAt W F M ps clock lim arm false) (hT : T ∉ foot F M ps) (hlt : ∀ k ∈ foot F M ps, k < w.heap.size) : CS W T F M nm ps clock lim arm false v qs next size false :=
  ⟨hf, h.sb, own_low h.row (Nat.zero_le _), fun q hq => own_low (h.own q hq) (Nat.zero_le _), hT, fun k e hm => by have := own_ge h.row k e; have := hlt k hm; omega, fun q hq k e hm => by have := own_ge (h.own q hq) k e; have := hlt k hm; omega⟩
theorem Moved.open_ {w W w' : World} {T F M : Nat} {ps ps' : List PF} (hk : Kept (fun _ => False) w W) (hT : w.heap.size ≤ T) (h : Moved W T F M ps ps' w') : Kept (fun k => k ∈ foot F M ps) w w' ∧ ∀ k ∈ foot F M ps', k ∈ foot F M ps ∨ w.heap.size ≤ k :=
  ⟨(hk.mono fun _ _ e => e.elim).trans h.kept fun i hi e => by
    rcases e with e | e
    · omega
    · exact e, fun k hm => (h.feet k hm).imp id fun e => Nat.le_trans hk.size e⟩
theorem openD_none {d : Disk} {nk nt : ByteArray} {parts : List (List PV)} (h : d nk = none) : openD d nk nt parts = d.put nt none := by unfold openD; rw [h]
theorem openD_some {d : Disk} {nk nt : ByteArray} {parts : List (List PV)} {v : FV} (h : d nk = some v) : openD d nk nt parts = (d.put nt none).put nk (some (frsL 0 (parts.map bytesP), min v.2 (frsL 0 (parts.map bytesP)).length)) := by unfold openD; rw [h]
theorem put_id {d : Disk} {s : ByteArray} {x : Option FV} (h : d s = x) : d.put s x = d := by
  funext t
  unfold Disk.put
  split
  · next e => rw [e, h]
  · rfl
set_option maxRecDepth 100000 in
set_option maxHeartbeats 8000000 in
theorem open_D (w : World) (F M : Nat) (ps : List PF) (clock : Nat) (lim arm : Int) (nm : ByteArray) (parts : List (List PV)) (t : List UInt8) (hs : nm.size ≤ 1000000) (hf : fullB (nm ++ dotK) = true) (hne : nm ++ dotK ≠ nm ++ dotT) (h : FilesAt w F M ps clock lim arm false) (hK : KIs (lk ps (nm ++ dotK)) parts t) :
    Calls Tryz.prog 5 #[.pointer (some ⟨F, 0, none⟩), .string nm] w (OpenPost w F M nm ps lim arm parts) := by
  have HF := Lib.hid (full_any (nm ++ dotK) w (by rw [size_dotK]; omega))
  rw [hf] at HF
  have HD : Hid (∀ W, Kept (fun _ => False) w W → Calls Tryz.prog 18 #[.pointer (some ⟨F, 0, none⟩)] W fun e w' => e = .returned (.bool false) ∧ W = w') := Lib.hid fun W hW => down_any W F M lim arm false (h.kept hW (by simp)).fb
  have HR : Hid (∀ W, Kept (fun _ => False) w W → Calls Tryz.prog 26 #[.pointer (some ⟨F, 0, none⟩), .string (nm ++ ⟨#[46, 116]⟩)] W fun e w' => ∃ (er : Int) (ps1 : List PF) (c1 : Nat) (arm1 : Int), e = .returned (.int .i64 er) ∧ ((er = 13 ∧ arm ≠ 0 ∧ Went W F M ps ps1 c1 lim arm1 true w' ∧ lk ps1 = lk ps) ∨ ((er = 0 ∨ er = 8) ∧ Went W F M ps ps1 c1 lim arm1 false w' ∧ lk ps1 = (lk ps).put (nm ++ dotT) none ∧ (arm = 0 → arm1 = 0)))) := Lib.hid fun W hW => by
    have hW1 := h.kept hW (by simp)
    cases hl : lk ps (nm ++ dotT) with
    | none =>
      refine (remove_noD (nm ++ dotT) hW1 hl).mono ?_
      rintro e w' ⟨rfl, rfl⟩
      exact ⟨8, ps, clock, arm, rfl, .inr ⟨.inr rfl, hW1.went0, (put_id hl).symm, fun e => e⟩⟩
    | some v =>
      refine (remove_D (nm ++ dotT) v hW1 hl).mono ?_
      rintro e w' ⟨rfl, ps1, c1, hw, hd⟩
      by_cases ha : arm = 1
      · rw [decide_eq_true ha] at hw
        rw [if_pos ha] at hd
        exact ⟨_, ps1, c1, _, rfl, .inl ⟨by rw [hitE, if_pos ha], by omega, hw, hd⟩⟩
      · rw [decide_eq_false ha] at hw
        rw [if_neg ha] at hd
        exact ⟨_, ps1, c1, _, rfl, .inr ⟨.inl (by rw [hitE, if_neg ha]), hw, hd, fun e => decA0 e⟩⟩
  have hbu := fun W => build_store F nm W
  have hs1 : nm.size ≤ 9223372036854775805 := by omega
  have hs2 : nm.size + 2 ≤ 9223372036854775807 := by omega
  have HK := Lib.hid hK
  have HN := Lib.hid hne
  have H := Lib.hid h
  unfold dotK at HF
  clear hf h hK hne
  go_enter Tryz.func5, Tryz.ntmps5
  go_upto_region 8 with (first
    | (go_at_call 25; refine HF.out.mono ?_; rintro e w1 ⟨rfl, hk⟩; have HK1 := Lib.hid hk; clear hk)
    | (go_at_call 18; refine (HD.out _ HK1.out).mono ?_; rintro e w9 ⟨rfl, rfl⟩))
  obtain ⟨T, hT⟩ : ∃ T, T = w1.heap.size := ⟨_, rfl⟩
  obtain ⟨W2, hW2⟩ : ∃ W2, W2 = w1.alloc (.cells #[.pointer (some ⟨F, 0, none⟩), .string nm, .slice none 0 0, .int .u64 0, .int .i64 0, .bool false] 63) := ⟨_, rfl⟩
  have HS2 : Hid (SB W2 T F nm (.slice none 0 0) 0 0 false) := Lib.hid (by rw [hW2, hT]; exact heap_alloc_new w1 _)
  have HK2 : Hid (Kept (fun _ => False) w W2) := Lib.hid (by rw [hW2]; exact HK1.out.alloc _)
  have HT : Hid (w.heap.size ≤ T) := Lib.hid (by rw [hT]; exact HK1.out.size)
  have HTn : Hid (T ∉ foot F M ps) := Lib.hid fun hm => by have := H.out.lt T hm; have := HT.out; omega
  rw [← hW2, ← hT]
  clear hW2 hT
  go_upto_region 9 with (go_at_call 26; refine (HR.out W2 HK2.out).mono ?_; rintro e w3 ⟨er, ps1, c1, arm1, rfl, hR⟩; have HR3 := Lib.hid hR; clear hR)
  have HTl : Hid (T < W2.heap.size) := Lib.hid (Array.getElem?_eq_some_iff.1 (show W2.heap[T]? = _ from HS2.out)).1
  rcases HR3.out with ⟨rfl, ha, hw, hd⟩ | ⟨her, hw, hd, ha⟩
  · have HW := Lib.hid (Went.pre HK2.out hw)
    have Ha := Lib.hid ha
    have Hd := Lib.hid hd
    clear ha hw hd HR3 HR HF HD
    go_wp2
    go_ret2
    exact .inl ⟨rfl, Ha.out, ps1, c1, arm1, HW.out, .inl Hd.out⟩
  · have HL1 : Hid (lk ps1 (nm ++ dotK) = lk ps (nm ++ dotK)) := Lib.hid (by rw [hd, Disk.put_ne _ _ HN.out])
    have HW := Lib.hid hw
    have Hd := Lib.hid hd
    have Ha := Lib.hid ha
    have HS3 := Lib.hid (HS2.out.kept hw.kept HTn.out)
    have HT1 : Hid (T ∉ foot F M ps1) := Lib.hid fun hm => (hw.feet T hm).elim HTn.out fun e => by have := HTl.out; omega
    have HMv : Hid (Moved W2 T F M ps ps1 w3) := Lib.hid (Moved.went hw)
    cases hl : lk ps (nm ++ dotK) with
    | none =>
      have HRd := Lib.hid (read_noD (nm ++ dotK) hw.at_ (HL1.out.trans hl))
      have Hl := Lib.hid hl
      have Hp : Hid (parts = []) := Lib.hid (by
        rcases HK.out.is with ⟨_, h2, _⟩ | ⟨sf, h2⟩
        · exact h2
        · rw [hl] at h2; cases h2)
      rw [show dotK = ⟨#[46, 107]⟩ from rfl] at HRd
      clear ha hw hd HR3 HR HF HD hl
      rcases her with rfl | rfl
      all_goals
        go_wp2_with (go_at_call 27; refine HRd.out.mono ?_; rintro e w4 ⟨v4, rfl, -, hk4⟩; have HK4 := Lib.hid hk4; clear hk4)
        go_ret2
        have hmv := Moved.open_ HK2.out HT.out (HMv.out.trans (Moved.stay HK4.out))
        rw [Hp.out]
        exact .inr ⟨T, ps1, c1, arm1, .slice none 0 0, [], rfl, HT.out, ⟨HW.out.at_.kept HK4.out (by simp), HS3.out.kept' HK4.out, World.ownsRow_nil _ _ _ _, fun q hq => by simp at hq, HT1.out, fun k e => by simp [Value.ownBlock] at e, fun q hq => by simp at hq⟩, hmv.1, hmv.2, fun k e => by simp [Value.ownBlock] at e, by rw [Hd.out, openD_none Hl.out], rfl, Ha.out⟩
    | some v =>
      have HRd := Lib.hid (read_D (nm ++ dotK) v hw.at_ (HL1.out.trans hl))
      have Hl := Lib.hid hl
      rw [show dotK = ⟨#[46, 107]⟩ from rfl] at HRd
      obtain ⟨sf, hv⟩ : ∃ sf, v = (frsL 0 (parts.map bytesP) ++ t, sf) := by
        rcases HK.out.is with ⟨h2, _⟩ | ⟨sf, h2⟩
        · rw [hl] at h2; cases h2
        · rw [hl] at h2; exact ⟨sf, Option.some.inj h2⟩
      obtain ⟨n, hn⟩ : ∃ n, n = v.1.length := ⟨_, rfl⟩
      obtain ⟨sz, hsz⟩ : ∃ sz, sz = (frsL 0 (parts.map bytesP)).length := ⟨_, rfl⟩
      have hn9 : n ≤ 4194304 := by
        obtain ⟨l1, p, l2, e1, e2, e3, -⟩ := lk_split (HL1.out.trans hl)
        have := (hw.at_.at_ p (by rw [e1]; simp)).len
        rw [hn, ← e3]; exact this
      have hnsz : n = sz + t.length := by rw [hn, hv, List.length_append, hsz]
      have Hn := Lib.hid hn
      have Hv := Lib.hid hv
      have Hsz := Lib.hid hsz
      have Hns := Lib.hid hnsz
      have hszn : (sz : Int) ≤ (n : Int) := by omega
      clear hnsz ha hw hd HR3 HR HF HD hl hv hn hsz
      rcases her with rfl | rfl
      all_goals
        go_upto_region 16 with (go_at_call 27; refine HRd.out.mono ?_; rintro e w4 ⟨v4, rfl, ho4, hk4⟩; rw [← Hn.out] at ho4; obtain ⟨A4, c4, rfl⟩ := own_slice ho4; have HO4 := Lib.hid ho4; have HK4 := Lib.hid hk4; clear ho4 hk4)
        have HCr : Hid (Calls Tryz.prog 28 #[.pointer (some ⟨T, 0, none⟩), .slice A4 n c4] w4 fun e w' => e = .returned (.tuple #[]) ∧ ∃ v qs, RSt w4 w' T F nm v qs parts.length sz false ∧ qs.map PV.core = foldP parts) := Lib.hid (by
          obtain ⟨y, m, hy, hm, ht⟩ := HK.out.tail
          have h1 := HO4.out
          obtain ⟨A9, c9, h8, h7, h6, h5, h4⟩ := Bs.of_own h1
          simp only [Value.slice.injEq] at h8
          obtain ⟨rfl, -, rfl⟩ := h8
          have hcap := (own_cap h1).1
          rw [Hsz.out]
          exact cread_any w4 T F nm false A4 n c4 m v.1 y parts (HS3.out.kept' HK4.out) h7 hcap h5 h6 (fun ad e => .inr (by have := own_ge h1 _ (h4 ad e); have := HTl.out; have := HMv.out.kept.size; omega)) (by omega) (by rw [Hv.out, ht]) hm hy HK.out.fit HK.out.few HK.out.flat)
        go_upto_region 17 with (go_at_call 28; refine HCr.out.mono ?_; rintro e w5 ⟨rfl, v5, q5, hr5, hc5⟩; have HR5 := Lib.hid hr5; have HC5 := Lib.hid hc5; clear hr5 hc5)
        have HF5 : Hid (FilesAt w5 F M ps1 c1 lim arm1 false) := Lib.hid ((HW.out.at_.kept HK4.out (by simp)).kept HR5.out.kept fun k hm e => HT1.out (e ▸ hm))
        have HCS : Hid (CS w5 T F M nm ps1 c1 lim arm1 false v5 q5 parts.length sz false) := Lib.hid (HR5.out.cs HF5.out HT1.out fun k hm => by have := HW.out.at_.lt k hm; have := HK4.out.size; omega)
        have HM5 : Hid (Moved W2 T F M ps ps1 w5) := Lib.hid ((HMv.out.trans (Moved.stay HK4.out)).trans (Moved.turn HR5.out.kept))
        have HV5 : Hid (∀ k, v5.ownBlock = some k → w.heap.size ≤ k) := Lib.hid fun k e => by have := own_ge HR5.out.row k e; have := HK2.out.size; have := HMv.out.kept.size; have := HK4.out.size; omega
        have t4 := HR5.out.sb.c4
        have hlv : lk ps1 (nm ++ dotK) = some v := HL1.out.trans Hl.out
        have Hlv := Lib.hid hlv
        have hsf : sf ≤ n := by
          obtain ⟨l1, p, l2, e1, e2, e3, -⟩ := lk_split hlv
          have h1 := (HW.out.at_.at_ p (by rw [e1]; simp)).safe
          have h2 : p.b = v.1 ∧ p.safe = v.2 := ⟨congrArg Prod.fst e3, congrArg Prod.snd e3⟩
          rw [h2.1, h2.2, ← Hn.out, Hv.out] at h1
          exact h1
        by_cases ht : t.length = 0
        · have hlt : ¬ (sz : Int) < (n : Int) := by have := Hns.out; omega
          have Ht := Lib.hid ht
          clear hlv ht hszn
          go_wp2
          go_ret2
          have hmv := Moved.open_ HK2.out HT.out HM5.out
          refine .inr ⟨T, ps1, c1, arm1, v5, q5, rfl, HT.out, by rw [← Hsz.out]; exact HCS.out, hmv.1, hmv.2, HV5.out, ?_, HC5.out, Ha.out⟩
          rw [openD_some Hl.out, put_id, Hd.out]
          rw [← Hd.out, Hlv.out, Hv.out]
          rw [List.eq_nil_of_length_eq_zero Ht.out, List.append_nil]
          simp only [← Hsz.out]
          rw [Nat.min_eq_left (by have := Hns.out; have := Ht.out; omega)]
        · have hlt : (sz : Int) < (n : Int) := by have := Hns.out; omega
          have HTr := Lib.hid (trunc_D (nm ++ dotK) v sz HF5.out hlv (by rw [← Hn.out]; omega))
          rw [show dotK = ⟨#[46, 107]⟩ from rfl] at HTr
          clear hlv ht hszn
          go_upto_region 19 with (go_at_call 29; refine HTr.out.mono ?_; rintro e w6 ⟨rfl, ps6, c6, hw6, hd6⟩; have HW6 := Lib.hid hw6; have HD6 := Lib.hid hd6; clear hw6 hd6)
          have HM6 : Hid (Moved W2 T F M ps ps6 w6) := Lib.hid (HM5.out.trans (Moved.went HW6.out))
          by_cases ha1 : arm1 = 1
          · rw [show hitE arm1 = 13 by rw [hitE, if_pos ha1]]
            have Ha1 := Lib.hid ha1
            clear ha1
            go_wp2
            go_ret2
            have hmv := Moved.open_ HK2.out HT.out HM6.out
            have hw := HW6.out
            rw [decide_eq_true Ha1.out] at hw
            have hd := HD6.out
            rw [if_pos Ha1.out] at hd
            exact .inl ⟨rfl, fun e => by have := Ha.out e; have := Ha1.out; omega, ps6, c6, _, ⟨hw.at_, hmv.1, hmv.2⟩, .inr (by rw [hd, Hd.out])⟩
          · rw [show hitE arm1 = 0 by rw [hitE, if_neg ha1]]
            have Ha1 := Lib.hid ha1
            clear ha1
            go_wp2
            go_ret2
            have hmv := Moved.open_ HK2.out HT.out HM6.out
            have hw := HW6.out
            rw [decide_eq_false Ha1.out] at hw
            have hd := HD6.out
            rw [if_neg Ha1.out] at hd
            refine .inr ⟨T, ps6, c6, _, v5, q5, rfl, HT.out, by rw [← Hsz.out]; exact HCS.out.went hw, hmv.1, hmv.2, HV5.out, ?_, HC5.out, fun e => decA0 (Ha.out e)⟩
            rw [openD_some Hl.out, hd, Hd.out, Hv.out]
            simp only [Hsz.out, List.take_left]
            rfl
end Go.Proofs.YtcifhfdjigfeiaaGreatDoor
end
