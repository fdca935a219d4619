import Derived.Test.YtefpigakhhfcaaaDoorMao
/-! Files as a disk: what is under each name; each operation in these words. -/
section
set_option linter.unusedVariables false
set_option linter.unusedSimpArgs false
namespace Go.Proofs.YtefpigakhhfcaaaDoor
open Go.RowKit

/-- A file's bytes, and how many of them are safe. -/
abbrev FV := List UInt8 × Nat
abbrev Disk := ByteArray → Option FV
def PF.fv (p : PF) : FV := (p.b, p.safe)
def lk (ps : List PF) : Disk := fun s => (ps.find? fun p => decide (p.name = s)).map PF.fv
def Disk.put (d : Disk) (s : ByteArray) (x : Option FV) : Disk := fun t => if t = s then x else d t
theorem Disk.put_same (d : Disk) (s : ByteArray) (x : Option FV) : d.put s x s = x := by simp [Disk.put]
theorem Disk.put_ne (d : Disk) {s t : ByteArray} (x : Option FV) (h : t ≠ s) : d.put s x t = d t := by simp [Disk.put, h]
theorem lk_nil : lk [] = fun _ => none := rfl
theorem lk_cons (p : PF) (ps : List PF) : lk (p :: ps) = (lk ps).put p.name (some p.fv) := by
  funext s
  unfold lk Disk.put
  by_cases h : p.name = s
  · simp [h]
  · rw [List.find?_cons_of_neg (by simpa using h), if_neg fun e => h e.symm]
theorem lk_none {ps : List PF} {s : ByteArray} : lk ps s = none ↔ ∀ p ∈ ps, p.name ≠ s := by
  unfold lk
  rw [Option.map_eq_none_iff, List.find?_eq_none]
  simp
theorem lk_split {ps : List PF} {s : ByteArray} {v : FV} (h : lk ps s = some v) : ∃ l1 p l2, ps = l1 ++ p :: l2 ∧ p.name = s ∧ p.fv = v ∧ ∀ q ∈ l1, q.name ≠ s := by
  induction ps with
  | nil => cases h
  | cons p ps ih =>
    rw [lk_cons] at h
    by_cases hp : s = p.name
    · subst hp
      rw [Disk.put_same] at h
      exact ⟨[], p, ps, rfl, rfl, Option.some.inj h, fun q hq => by cases hq⟩
    · rw [Disk.put_ne _ _ hp] at h
      obtain ⟨l1, q, l2, rfl, h2, h3, h4⟩ := ih h
      exact ⟨p :: l1, q, l2, rfl, h2, h3, fun r hr => by
        rcases List.mem_cons.1 hr with rfl | hr
        · exact fun e => hp e.symm
        · exact h4 r hr⟩
theorem lk_mid (l1 l2 : List PF) (p : PF) (h : ∀ q ∈ l1, q.name ≠ p.name) : lk (l1 ++ p :: l2) = (lk (l1 ++ l2)).put p.name (some p.fv) := by
  induction l1 with
  | nil => exact lk_cons p l2
  | cons q l1 ih =>
    rw [List.cons_append, lk_cons, ih fun r hr => h r (List.mem_cons_of_mem _ hr), List.cons_append, lk_cons]
    funext t
    unfold Disk.put
    have h1 := h q List.mem_cons_self
    by_cases h2 : t = q.name
    · rw [if_pos h2, if_neg (by rw [h2]; exact h1), if_pos h2]
    · rw [if_neg h2, if_neg h2]
theorem lk_end (ps : List PF) (p : PF) (h : ∀ q ∈ ps, q.name ≠ p.name) : lk (ps ++ [p]) = (lk ps).put p.name (some p.fv) := by
  rw [lk_mid ps [] p h, List.append_nil]
theorem nodup_mid {l1 l2 : List PF} {p : PF} (h : ((l1 ++ p :: l2).map PF.name).Nodup) : (∀ q ∈ l1 ++ l2, q.name ≠ p.name) := by
  rw [List.map_append, List.map_cons, List.nodup_append, List.nodup_cons] at h
  obtain ⟨h1, ⟨h2, h3⟩, h4⟩ := h
  intro q hq e
  rcases List.mem_append.1 hq with hq | hq
  · exact h4 _ (List.mem_map_of_mem hq) _ List.mem_cons_self e
  · exact h2 (e ▸ List.mem_map_of_mem hq)
theorem lk_out {l1 l2 : List PF} {p : PF} (h : ((l1 ++ p :: l2).map PF.name).Nodup) : lk (l1 ++ l2) = (lk (l1 ++ p :: l2)).put p.name none := by
  have h1 := nodup_mid h
  rw [lk_mid l1 l2 p fun q hq => h1 q (List.mem_append_left _ hq)]
  funext t
  unfold Disk.put
  by_cases h2 : t = p.name
  · subst h2; rw [if_pos rfl]; exact lk_none.2 h1
  · rw [if_neg h2, if_neg h2]
theorem lk_swap {l1 l2 : List PF} {p q : PF} (h : ((l1 ++ p :: l2).map PF.name).Nodup) (hq : q.name = p.name) : lk (l1 ++ q :: l2) = (lk (l1 ++ p :: l2)).put p.name (some q.fv) := by
  have h1 := nodup_mid h
  rw [lk_mid l1 l2 p fun r hr => h1 r (List.mem_append_left _ hr), lk_mid l1 l2 q fun r hr => hq ▸ h1 r (List.mem_append_left _ hr), hq]
  funext t
  unfold Disk.put
  by_cases h2 : t = p.name
  · rw [if_pos h2, if_pos h2]
  · rw [if_neg h2, if_neg h2, if_neg h2]
/-- What an operation leaves. -/
def DPost (w : World) (F M : Nat) (ps : List PF) (er lim arm : Int) (dn : Bool) (d : Disk) (e : Ending) (w' : World) : Prop :=
  e = .returned (.int .i64 er) ∧ ∃ ps' clock', Went w F M ps ps' clock' lim arm dn w' ∧ lk ps' = d
def oldB (x : Option FV) : FV := x.getD ([], 0)
section
variable {w : World} {F M : Nat} {ps : List PF} {clock : Nat} {lim arm : Int}
theorem append_D (s : ByteArray) (A : Option Addr) (n c : Nat) (xs : List UInt8) (h : FilesAt w F M ps clock lim arm false) (hs : s.size ≤ 140737488355328) (hf : fullB s = true) (hu : usedL ps ≤ 4194304) (hx : Bs w A xs) (hn : n = xs.length) (hA : A = none → c = 0) (hfit : Fits lim ps n) (hM : ∀ ad, A = some ad → xs = [] ∨ ad.block ≠ M) :
    Calls Tryd.prog 34 #[.pointer (some ⟨F, 0, none⟩), .string s, .slice A n c] w (DPost w F M ps (hitE arm) lim (decA arm) (decide (arm = 1)) ((lk ps).put s (some ((oldB (lk ps s)).1 ++ xs, (oldB (lk ps s)).2)))) := by
  cases hl : lk ps s with
  | none =>
    have hno := lk_none.1 hl
    refine (append_new s A n c w F M lim arm ps clock xs hno hs hf h hu hx hn hA hfit hM).mono ?_
    rintro e w' ⟨B, v, rfl, hw⟩
    exact ⟨rfl, _, _, hw, by rw [lk_end _ _ hno]; rfl⟩
  | some v =>
    obtain ⟨l1, p, l2, rfl, rfl, rfl, -⟩ := lk_split hl
    refine (append_old A n c w F M lim arm l1 l2 p clock xs hs hf h hu hx hn hA hfit).mono ?_
    rintro e w' ⟨v, rfl, hw⟩
    exact ⟨rfl, _, _, hw, by rw [lk_swap h.names (q := { p with b := p.b ++ xs, val := v }) rfl]; rfl⟩
theorem sync_D (s : ByteArray) (v : FV) (h : FilesAt w F M ps clock lim arm false) (hl : lk ps s = some v) :
    Calls Tryd.prog 42 #[.pointer (some ⟨F, 0, none⟩), .string s] w (DPost w F M ps (hitE arm) lim (decA arm) (decide (arm = 1)) (if arm = 1 then lk ps else (lk ps).put s (some (v.1, v.1.length)))) := by
  obtain ⟨l1, p, l2, rfl, rfl, rfl, -⟩ := lk_split hl
  by_cases ha : arm = 1
  · subst ha
    refine (sync_hit w F M lim l1 l2 p clock h).mono ?_
    rintro e w' ⟨rfl, hw⟩
    exact ⟨rfl, _, _, hw, by rw [if_pos rfl]⟩
  · refine (sync_ok w F M lim arm l1 l2 p clock ha h).mono ?_
    rintro e w' ⟨rfl, hw⟩
    rw [decide_eq_false ha, if_neg ha]
    exact ⟨by rw [hitE, if_neg ha], _, _, hw, by rw [lk_swap h.names (q := { p with safe := p.b.length }) rfl]; rfl⟩
theorem trunc_D (s : ByteArray) (v : FV) (n : Nat) (h : FilesAt w F M ps clock lim arm false) (hl : lk ps s = some v) (hn : n ≤ v.1.length) :
    Calls Tryd.prog 28 #[.pointer (some ⟨F, 0, none⟩), .string s, .int .i64 (n : Nat)] w (DPost w F M ps (hitE arm) lim (decA arm) (decide (arm = 1)) (if arm = 1 then lk ps else (lk ps).put s (some (v.1.take n, min v.2 n)))) := by
  obtain ⟨l1, p, l2, rfl, rfl, rfl, -⟩ := lk_split hl
  by_cases ha : arm = 1
  · subst ha
    refine (trunc_hit w F M lim l1 l2 p clock n hn h).mono ?_
    rintro e w' ⟨rfl, hw⟩
    exact ⟨rfl, _, _, hw, by rw [if_pos rfl]⟩
  · rw [decide_eq_false ha, if_neg ha, hitE, if_neg ha]
    by_cases hm : n < p.safe
    · refine (trunc_lt w F M lim arm l1 l2 p clock n hn hm ha h).mono ?_
      rintro e w' ⟨v, rfl, hw⟩
      exact ⟨rfl, _, _, hw, by rw [lk_swap h.names (q := { p with b := p.b.take n, safe := min p.safe n, val := v }) rfl]; rfl⟩
    · refine (trunc_ge w F M lim arm l1 l2 p clock n hn hm ha h).mono ?_
      rintro e w' ⟨v, rfl, hw⟩
      exact ⟨rfl, _, _, hw, by rw [lk_swap h.names (q := { p with b := p.b.take n, safe := min p.safe n, val := v }) rfl]; rfl⟩
theorem remove_D (s : ByteArray) (v : FV) (h : FilesAt w F M ps clock lim arm false) (hl : lk ps s = some v) :
    Calls Tryd.prog 27 #[.pointer (some ⟨F, 0, none⟩), .string s] w (DPost w F M ps (hitE arm) lim (decA arm) (decide (arm = 1)) (if arm = 1 then lk ps else (lk ps).put s none)) := by
  obtain ⟨l1, p, l2, rfl, rfl, rfl, -⟩ := lk_split hl
  refine (remove_any w F M lim arm l1 l2 p clock h).mono ?_
  intro e w' hp
  by_cases ha : arm = 1
  · rw [if_pos ha] at hp
    obtain ⟨rfl, hw⟩ := hp
    rw [decide_eq_true ha, if_pos ha, hitE, if_pos ha]
    exact ⟨rfl, _, _, hw, rfl⟩
  · rw [if_neg ha] at hp
    obtain ⟨rfl, hw⟩ := hp
    rw [decide_eq_false ha, if_neg ha, hitE, if_neg ha]
    exact ⟨rfl, _, _, hw, lk_out h.names⟩
theorem remove_noD (s : ByteArray) (h : FilesAt w F M ps clock lim arm false) (hl : lk ps s = none) : Calls Tryd.prog 27 #[.pointer (some ⟨F, 0, none⟩), .string s] w (Ret 8 w) :=
  remove_no _ _ 8 rfl w (Lib.hid (there_none s w F M lim arm ps clock h (lk_none.1 hl)))
theorem read_D (s : ByteArray) (v : FV) (h : FilesAt w F M ps clock lim arm false) (hl : lk ps s = some v) : Calls Tryd.prog 25 #[.pointer (some ⟨F, 0, none⟩), .string s] w (ReadPost w F M v.1 0) := by
  obtain ⟨l1, p, l2, rfl, rfl, rfl, -⟩ := lk_split hl
  exact read_some w F M lim arm l1 l2 p clock h
theorem read_noD (s : ByteArray) (h : FilesAt w F M ps clock lim arm false) (hl : lk ps s = none) : Calls Tryd.prog 25 #[.pointer (some ⟨F, 0, none⟩), .string s] w (ReadPost w F M [] 8) :=
  read_none s w F M lim arm ps clock h (lk_none.1 hl)
end
/-- A fall, in these words. -/
def FellV (x y : Option FV) : Prop := (x = none ∧ y = none) ∨ ∃ b s k, x = some (b, s) ∧ s ≤ k ∧ k ≤ b.length ∧ y = some (b.take k, k)
theorem All2.fell {ps qs : List PF} (h : All2 Fell ps qs) : ∀ s, FellV (lk ps s) (lk qs s) := by
  induction ps generalizing qs with
  | nil =>
    obtain rfl : qs = [] := List.eq_nil_of_length_eq_zero h.1.symm
    exact fun s => .inl ⟨rfl, rfl⟩
  | cons p ps ih =>
    cases qs with
    | nil => have := h.1; simp at this
    | cons q qs =>
      have h1 := h.2 0 p q rfl rfl
      have h2 := ih (qs := qs) ⟨by have := h.1; simpa using this, fun i a b ha hb => h.2 (i + 1) a b ha hb⟩
      intro s
      rw [lk_cons, lk_cons, h1.name]
      by_cases hs : s = p.name
      · subst hs
        rw [Disk.put_same, Disk.put_same]
        obtain ⟨k, h3, h4, h5, h6⟩ := h1.some_
        exact .inr ⟨p.b, p.safe, k, rfl, h3, h4, by rw [PF.fv, h5, h6]⟩
      · rw [Disk.put_ne _ _ hs, Disk.put_ne _ _ hs]
        exact h2 s
theorem len_sub {S l : List ByteArray} (hn : l.Nodup) (hs : ∀ x ∈ l, x ∈ S) : l.length ≤ S.length := by
  induction l generalizing S with
  | nil => simp
  | cons x l ih =>
    rw [List.nodup_cons] at hn
    obtain ⟨a, b, rfl⟩ := List.append_of_mem (hs x List.mem_cons_self)
    have h1 := ih (S := a ++ b) hn.2 fun y hy => by
      have h2 := hs y (List.mem_cons_of_mem _ hy)
      rw [List.mem_append, List.mem_cons] at h2
      rw [List.mem_append]
      rcases h2 with h2 | h2 | h2
      · exact .inl h2
      · exact absurd hy (h2 ▸ hn.1)
      · exact .inr h2
    rw [List.length_append] at h1
    rw [List.length_cons, List.length_append, List.length_cons]; omega
def szV (x : Option FV) : Nat := (oldB x).1.length
theorem sum_put {S : List ByteArray} {d : Disk} {s : ByteArray} {v : FV} (hS : S.Nodup) (hs : s ∈ S) (hd : d s = none) : (S.map fun t => szV (d.put s (some v) t)).sum = (S.map fun t => szV (d t)).sum + v.1.length := by
  induction S with
  | nil => cases hs
  | cons x S ih =>
    rw [List.nodup_cons] at hS
    simp only [List.map_cons, List.sum_cons]
    by_cases hx : s = x
    · subst hx
      rw [Disk.put_same, hd]
      have : (S.map fun t => szV (d.put s (some v) t)) = (S.map fun t => szV (d t)) := by
        apply List.map_congr_left
        intro t ht
        rw [Disk.put_ne _ _ (fun e => hS.1 (by rw [← e]; exact ht))]
      rw [this]
      simp [szV, oldB]; omega
    · have h1 := ih hS.2 ((List.mem_cons.1 hs).resolve_left hx)
      rw [h1, Disk.put_ne _ _ fun e => hx e.symm]; omega
/-- How many bytes there are, name by name. -/
theorem used_sum {S : List ByteArray} {ps : List PF} (hS : S.Nodup) (hn : (ps.map PF.name).Nodup) (hs : ∀ p ∈ ps, p.name ∈ S) : usedL ps = (S.map fun t => szV (lk ps t)).sum := by
  induction ps with
  | nil =>
    have : (S.map fun t => szV (lk [] t)) = S.map fun _ => 0 := rfl
    rw [this]
    have : ∀ (l : List ByteArray), (l.map fun _ => 0).sum = 0 := by
      intro l; induction l with
      | nil => rfl
      | cons a l ih => simp [ih]
    rw [this]; rfl
  | cons p ps ih =>
    rw [List.map_cons, List.nodup_cons] at hn
    have h1 := ih hn.2 fun q hq => hs q (List.mem_cons_of_mem _ hq)
    have h2 : lk ps p.name = none := lk_none.2 fun q hq e => hn.1 (e ▸ List.mem_map_of_mem hq)
    rw [lk_cons, sum_put hS (hs p List.mem_cons_self) h2, ← h1]
    simp [usedL, PF.fv]; omega
theorem lk_mem {ps : List PF} {p : PF} (hp : p ∈ ps) : lk ps p.name ≠ none := fun e => lk_none.1 e p hp rfl
end Go.Proofs.YtefpigakhhfcaaaDoor
end

/-! A segment's file's name: sixteen digits; names in order; which of some names are a log's. -/
section
set_option linter.unusedVariables false
set_option linter.unusedSimpArgs false
namespace Go.Proofs.YtefpigakhhfcaaaDoor

/-- A digit of 16. -/
def hexc (d : Nat) : UInt8 := if d < 10 then UInt8.ofNat (48 + d) else UInt8.ofNat (87 + d)
def hexN : Nat → Nat → List UInt8
  | 0, _ => []
  | n + 1, v => hexN n (v / 16) ++ [hexc (v % 16)]
def dig (c : UInt8) : Option Nat := if 48 ≤ c.toNat ∧ c.toNat ≤ 57 then some (c.toNat - 48) else if 97 ≤ c.toNat ∧ c.toNat ≤ 102 then some (c.toNat - 87) else none
def valL (v : Nat) (l : List UInt8) : Option Nat := match l with
  | [] => some v
  | c :: r => match dig c with
    | none => none
    | some d => valL (v * 16 + d) r
theorem hexc_nat (d : Nat) (h : d < 16) : (hexc d).toNat = if d < 10 then 48 + d else 87 + d := by
  unfold hexc; split <;> simp <;> omega
theorem dig_hexc (d : Nat) (h : d < 16) : dig (hexc d) = some d := by
  unfold dig; rw [hexc_nat d h]
  by_cases h1 : d < 10
  · rw [if_pos h1, if_pos (by omega)]; congr 1; omega
  · rw [if_neg h1, if_neg (by omega), if_pos (by omega)]; congr 1; omega
theorem dig_lt {c : UInt8} {d : Nat} (h : dig c = some d) : d < 16 := by
  unfold dig at h; split at h
  · cases h; omega
  · split at h
    · cases h; omega
    · cases h
theorem hexc_dig {c : UInt8} {d : Nat} (h : dig c = some d) : hexc d = c := by
  have hd := dig_lt h
  apply UInt8.toNat_inj.1
  rw [hexc_nat d hd]
  unfold dig at h; split at h
  · cases h; rw [if_pos (by omega)]; omega
  · split at h
    · cases h; rw [if_neg (by omega)]; omega
    · cases h
theorem hexN_len (n v : Nat) : (hexN n v).length = n := by
  induction n generalizing v with
  | zero => rfl
  | succ n ih => simp [hexN, ih]
theorem valL_append (v : Nat) (a b : List UInt8) : valL v (a ++ b) = (valL v a).bind fun u => valL u b := by
  induction a generalizing v with
  | nil => rfl
  | cons c r ih =>
    simp only [List.cons_append, valL]
    cases dig c with
    | none => rfl
    | some d => exact ih _
theorem valL_hexN (n v u : Nat) (h : v < 16 ^ n) : valL u (hexN n v) = some (u * 16 ^ n + v) := by
  induction n generalizing v with
  | zero => simp [hexN, valL]; simp at h; omega
  | succ n ih =>
    rw [hexN, valL_append, ih _ (by rw [Nat.div_lt_iff_lt_mul (by decide)]; rw [Nat.pow_succ] at h; exact h)]
    simp only [Option.bind_some, valL, dig_hexc _ (Nat.mod_lt _ (by decide : 0 < 16))]
    congr 1
    rw [Nat.pow_succ]
    have := Nat.div_add_mod v 16
    have e : (u * 16 ^ n + v / 16) * 16 = u * (16 ^ n * 16) + 16 * (v / 16) := by rw [Nat.add_mul, Nat.mul_assoc]; omega
    omega
theorem hexN_valL (l : List UInt8) (v : Nat) (h : valL 0 l = some v) : v < 16 ^ l.length ∧ hexN l.length v = l := by
  have : ∀ (n : Nat) (l : List UInt8), l.length = n → ∀ v, valL 0 l = some v → v < 16 ^ n ∧ hexN n v = l := by
    intro n
    induction n with
    | zero =>
      intro l hl v h
      obtain rfl := List.eq_nil_of_length_eq_zero hl
      simp [valL] at h
      subst h
      exact ⟨by decide, rfl⟩
    | succ n ih =>
      intro l hl v h
      have hne : l ≠ [] := fun e => by rw [e] at hl; simp at hl
      obtain ⟨m, c, rfl⟩ : ∃ m c, l = m ++ [c] := ⟨l.dropLast, l.getLast hne, (List.dropLast_concat_getLast hne).symm⟩
      rw [valL_append] at h
      cases hm : valL 0 m with
      | none => rw [hm] at h; cases h
      | some u =>
        rw [hm] at h
        simp only [Option.bind_some, valL] at h
        cases hd : dig c with
        | none => rw [hd] at h; cases h
        | some d =>
          rw [hd] at h
          simp only [Option.some.injEq] at h
          subst h
          have hd16 := dig_lt hd
          obtain ⟨h1, h2⟩ := ih m (by simp at hl; exact hl) u hm
          refine ⟨by rw [Nat.pow_succ]; omega, ?_⟩
          rw [hexN, show (u * 16 + d) / 16 = u by omega, show (u * 16 + d) % 16 = d by omega, h2, hexc_dig hd]
  exact this l.length l rfl v h
/-- How a segment's file is called. -/
def fileL (nm : List UInt8) (v : Nat) : List UInt8 := nm ++ ([46, 115] ++ hexN 16 v)
def fileB (nm : ByteArray) (v : Nat) : ByteArray := ⟨(fileL nm.data.toList v).toArray⟩
/-- Which segment a name is. -/
def unname (nm s : List UInt8) : Option Nat := if nm ++ [46, 115] = s.take (nm.length + 2) ∧ s.length = nm.length + 18 then valL 0 (s.drop (nm.length + 2)) else none
theorem fileL_len (nm : List UInt8) (v : Nat) : (fileL nm v).length = nm.length + 18 := by simp [fileL, hexN_len]
theorem unname_file (nm : List UInt8) (v : Nat) (h : v < 18446744073709551616) : unname nm (fileL nm v) = some v := by
  have h1 : fileL nm v = (nm ++ [46, 115]) ++ hexN 16 v := by simp [fileL]
  have h2 : (nm ++ [46, 115]).length = nm.length + 2 := by simp
  unfold unname
  rw [if_pos ⟨by rw [h1, ← h2, List.take_left], fileL_len nm v⟩, h1, ← h2, List.drop_left, valL_hexN 16 v 0 (by simpa using h)]
  simp
theorem unname_some {nm s : List UInt8} {v : Nat} (h : unname nm s = some v) : v < 18446744073709551616 ∧ s = fileL nm v := by
  unfold unname at h
  split at h
  · next hc =>
    obtain ⟨h1, h2⟩ := hc
    obtain ⟨h3, h4⟩ := hexN_valL _ _ h
    have hl : (s.drop (nm.length + 2)).length = 16 := by simp; omega
    rw [hl] at h3 h4
    refine ⟨by simpa using h3, ?_⟩
    have : s = s.take (nm.length + 2) ++ s.drop (nm.length + 2) := (List.take_append_drop _ _).symm
    rw [this, ← h1, fileL, h4]; simp
  · cases h
theorem fileL_inj {nm : List UInt8} {v u : Nat} (hv : v < 18446744073709551616) (hu : u < 18446744073709551616) (h : fileL nm v = fileL nm u) : v = u := by
  have := unname_file nm v hv
  rw [h, unname_file nm u hu] at this
  exact (Option.some.inj this).symm
theorem hexc_lt {a b : Nat} (h : a < b) (hb : b < 16) : hexc a < hexc b := by
  rw [UInt8.lt_iff_toNat_lt, hexc_nat a (by omega), hexc_nat b hb]
  split <;> split <;> omega
theorem lex_pre (p a b : List UInt8) : p ++ a < p ++ b ↔ a < b := by
  induction p with
  | nil => rfl
  | cons x p ih => simp [List.cons_lt_cons_iff, ih]
theorem lex_app : ∀ (a b c d : List UInt8), a.length = b.length → a < b → a ++ c < b ++ d
  | [], [], c, d, _, h => absurd h (List.lt_irrefl [])
  | x :: a, y :: b, c, d, hl, h => by
    simp only [List.cons_append, List.cons_lt_cons_iff] at h ⊢
    rcases h with h | ⟨rfl, h⟩
    · exact .inl h
    · exact .inr ⟨rfl, lex_app a b c d (by simpa using hl) h⟩
theorem hexN_lt (n : Nat) : ∀ {a b : Nat}, a < b → b < 16 ^ n → hexN n a < hexN n b := by
  induction n with
  | zero => intro a b h hb; simp at hb; omega
  | succ n ih =>
    intro a b h hb
    rw [Nat.pow_succ] at hb
    rw [hexN, hexN]
    by_cases h1 : a / 16 = b / 16
    · rw [h1, lex_pre]
      have : hexc (a % 16) < hexc (b % 16) := hexc_lt (by omega) (Nat.mod_lt _ (by decide))
      simp [List.cons_lt_cons_iff, this]
    · exact lex_app _ _ _ _ (by rw [hexN_len, hexN_len]) (ih (by omega) (by omega))
theorem fileL_lt {nm : List UInt8} {a b : Nat} (h : a < b) (hb : b < 18446744073709551616) : fileL nm a < fileL nm b := by
  rw [fileL, fileL, lex_pre, lex_pre]
  exact hexN_lt 16 h (by simpa using hb)
/-- The segments among names. -/
def picks (nm : List UInt8) (l : List (List UInt8)) : List Nat := l.filterMap (unname nm)
theorem picks_mem {nm : List UInt8} {l : List (List UInt8)} {v : Nat} : v ∈ picks nm l ↔ v < 18446744073709551616 ∧ fileL nm v ∈ l := by
  unfold picks
  rw [List.mem_filterMap]
  constructor
  · rintro ⟨s, hs, h⟩
    obtain ⟨h1, rfl⟩ := unname_some h
    exact ⟨h1, hs⟩
  · rintro ⟨h1, h2⟩
    exact ⟨_, h2, unname_file nm v h1⟩
theorem picks_rise {nm : List UInt8} {l : List (List UInt8)} (h : l.Pairwise (· < ·)) : (picks nm l).Pairwise (· < ·) := by
  unfold picks
  refine List.Pairwise.filterMap (unname nm) ?_ h
  intro a b hab x hx y hy
  obtain ⟨h1, rfl⟩ := unname_some hx
  obtain ⟨h2, rfl⟩ := unname_some hy
  rcases Nat.lt_trichotomy x y with h | h | h
  · exact h
  · subst h; exact absurd hab (List.lt_irrefl _)
  · exact absurd (List.lt_trans hab (fileL_lt h h1)) (List.lt_irrefl _)
theorem rise_ext : ∀ {a b : List Nat}, a.Pairwise (· < ·) → b.Pairwise (· < ·) → (∀ x, x ∈ a ↔ x ∈ b) → a = b
  | [], [], _, _, _ => rfl
  | [], y :: b, _, _, h => absurd ((h y).2 List.mem_cons_self) (by simp)
  | x :: a, [], _, _, h => absurd ((h x).1 List.mem_cons_self) (by simp)
  | x :: a, y :: b, ha, hb, h => by
    rw [List.pairwise_cons] at ha hb
    have hxy : x = y := by
      rcases List.mem_cons.1 ((h x).1 List.mem_cons_self) with e | e
      · exact e
      · rcases List.mem_cons.1 ((h y).2 List.mem_cons_self) with e2 | e2
        · exact e2.symm
        · have h1 := ha.1 y e2
          have h2 := hb.1 x e
          omega
    subst hxy
    congr 1
    refine rise_ext ha.2 hb.2 fun z => ⟨fun hz => ?_, fun hz => ?_⟩
    · rcases List.mem_cons.1 ((h z).1 (List.mem_cons_of_mem _ hz)) with e | e
      · have := ha.1 z hz; omega
      · exact e
    · rcases List.mem_cons.1 ((h z).2 (List.mem_cons_of_mem _ hz)) with e | e
      · have := hb.1 z hz; omega
      · exact e
theorem rise_of_sorted : ∀ {l : List (List UInt8)}, l.Pairwise (fun a b => leB a b = true) → l.Nodup → l.Pairwise (· < ·)
  | [], _, _ => .nil
  | x :: l, h, hn => by
    rw [List.pairwise_cons] at h ⊢
    rw [List.nodup_cons] at hn
    refine ⟨fun y hy => ?_, rise_of_sorted h.2 hn.2⟩
    have h1 : x ≤ y := by simpa [leB] using h.1 y hy
    rcases Std.le_total (a := y) (b := x) with h2 | h2
    · exact absurd (Std.le_antisymm h1 h2 ▸ hy) hn.1
    · exact Std.lt_of_le_of_ne h1 fun e => hn.1 (e ▸ hy)
theorem sortN_rise {ps : List PF} (h : (ps.map PF.name).Nodup) : (sortN ps).Pairwise (· < ·) := by
  refine rise_of_sorted ?_ ((sortN_perm ps).nodup_iff.2 ?_)
  · exact List.pairwise_mergeSort (by intro a b c h1 h2; simp [leB] at *; exact Std.le_trans h1 h2) (by intro a b; simp [leB]; exact Std.le_total) _
  · unfold namesL
    rw [show (fun p : PF => p.name.data.toList) = (fun s : ByteArray => s.data.toList) ∘ PF.name from rfl, ← List.map_map]
    exact List.Pairwise.map _ (fun a b hab e => hab (by cases a; cases b; simp at e; exact congrArg ByteArray.mk e)) h
theorem name_mem {ps : List PF} {s : List UInt8} : s ∈ sortN ps ↔ lk ps ⟨s.toArray⟩ ≠ none := by
  rw [(sortN_perm ps).mem_iff]
  unfold namesL
  rw [List.mem_map, ne_eq, lk_none]
  constructor
  · rintro ⟨p, hp, rfl⟩ h
    exact h p hp (by simp)
  · intro h
    apply Classical.byContradiction
    intro hc
    exact h fun p hp e => hc ⟨p, hp, by rw [e]⟩
/-- The segments that lie there. -/
theorem picks_is {ps : List PF} {nm : ByteArray} {fs : List Nat} (h : (ps.map PF.name).Nodup) (hf : fs.Pairwise (· < ·)) (h64 : ∀ v ∈ fs, v < 18446744073709551616)
    (hm : ∀ v, v < 18446744073709551616 → (lk ps (fileB nm v) ≠ none ↔ v ∈ fs)) : picks nm.data.toList (sortN ps) = fs := by
  refine rise_ext (picks_rise (sortN_rise h)) hf fun v => ?_
  rw [picks_mem, name_mem]
  constructor
  · rintro ⟨h1, h2⟩
    exact (hm v h1).1 h2
  · intro h1
    exact ⟨h64 v h1, (hm v (h64 v h1)).2 h1⟩
end Go.Proofs.YtefpigakhhfcaaaDoor
end
