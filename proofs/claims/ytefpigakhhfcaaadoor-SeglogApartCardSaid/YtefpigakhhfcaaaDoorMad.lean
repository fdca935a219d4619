import Derived.Test.YtefpigakhhfcaaaDoorMac
/-! What the map's operations do to *files.Files. -/
section
set_option linter.unusedVariables false
set_option linter.unusedSimpArgs false
namespace Go.Proofs.YtefpigakhhfcaaaDoor
open Go.RowKit
open Go.MapKept (bytes_beq run_checkKey run_findKey run_setObj_map)
variable {w w' : World} {F M : Nat} {ps l1 l2 : List PF} {p q : PF} {clock : Nat} {lim arm : Int} {dn : Bool}

/-- A name is not there, or stands once. -/
theorem find_name (ps : List PF) (s : ByteArray) : (∀ p ∈ ps, p.name ≠ s) ∨ ∃ l1 p l2, ps = l1 ++ p :: l2 ∧ p.name = s := by
  by_cases h : ∃ p ∈ ps, p.name = s
  · obtain ⟨p, hp, hn⟩ := h
    obtain ⟨l1, l2, e⟩ := List.append_of_mem hp
    exact .inr ⟨l1, p, l2, e, hn⟩
  · exact .inl fun p hp hn => h ⟨p, hp, hn⟩
theorem findNow_none (s : ByteArray) : ∀ (ps : List PF) (i : Nat), (∀ p ∈ ps, p.name ≠ s) → Instr.findNow .string (.string s) (ps.map PF.entry) i = some none
  | [], _, _ => rfl
  | p :: ps, i, h => by
    have hne : (s == p.name) = false := by
      cases he : s == p.name with
      | false => rfl
      | true => exact absurd ((bytes_beq s p.name).1 he).symm (h p (by simp))
    simp only [List.map_cons, Instr.findNow, PF.entry, Instr.sameNow, hne]
    exact findNow_none s ps (i + 1) fun q hq => h q (by simp [hq])
theorem findNow_mid (s : ByteArray) (p : PF) (hp : p.name = s) (l2 : List PF) : ∀ (l1 : List PF) (i : Nat), (∀ q ∈ l1, q.name ≠ s) → Instr.findNow .string (.string s) ((l1 ++ p :: l2).map PF.entry) i = some (some (i + l1.length, .pointer (some ⟨p.blk, 0, none⟩)))
  | [], i, _ => by
    have he : (s == p.name) = true := (bytes_beq s p.name).2 hp.symm
    simp [Instr.findNow, PF.entry, Instr.sameNow, he]
  | q :: l1, i, h => by
    have hne : (s == q.name) = false := by
      cases he : s == q.name with
      | false => rfl
      | true => exact absurd ((bytes_beq s q.name).1 he).symm (h q (by simp))
    simp only [List.cons_append, List.map_cons, Instr.findNow, PF.entry, Instr.sameNow, hne]
    have := findNow_mid s p hp l2 l1 (i + 1) fun r hr => h r (by simp [hr])
    rw [this]
    simp; omega
theorem names_ne (h : ((l1 ++ p :: l2).map PF.name).Nodup) : (∀ q ∈ l1, q.name ≠ p.name) ∧ ∀ q ∈ l2, q.name ≠ p.name := by
  simp only [List.map_append, List.map_cons] at h
  rw [List.nodup_append] at h
  obtain ⟨_, h2, h3⟩ := h
  rw [List.nodup_cons] at h2
  exact ⟨fun q hq e => h3 q.name (List.mem_map.2 ⟨q, hq, rfl⟩) p.name (by simp) e, fun q hq e => h2.1 (by rw [← e]; exact List.mem_map.2 ⟨q, hq, rfl⟩)⟩

theorem look_none (hM : w.heap[M]? = some (.map (entriesOf ps) clock)) (s : ByteArray) (h : ∀ p ∈ ps, p.name ≠ s) :
    (Instr.lookup 74 (.map (some M)) (.string s) true).run Tryd.prog w = .ok (.tuple #[.pointer none, .bool false]) w := by
  have hz : (zeroValue 96).run Tryd.prog w = .ok (.pointer none) w := by kernel_rfl
  have hf : Instr.findNow .string (.string s) (entriesOf ps).toList 0 = some none := by simpa [entriesOf] using findNow_none s ps 0 h
  simp only [Instr.lookup, Sem.run_bind, run_underlying Tryd.underlying74, Go.MapKept.run_getObj_map hM, Result.andThen, run_checkKey (kt := 9) Tryd.underlying9 (k := .string s) trivial, run_findKey Tryd.underlying9 hf, hz, Sem.run_pure, if_true]
theorem look_some (hM : w.heap[M]? = some (.map (entriesOf (l1 ++ p :: l2)) clock)) (hn : ∀ q ∈ l1, q.name ≠ p.name) (ok : Bool) :
    (Instr.lookup 74 (.map (some M)) (.string p.name) ok).run Tryd.prog w = .ok (if ok then .tuple #[.pointer (some ⟨p.blk, 0, none⟩), .bool true] else .pointer (some ⟨p.blk, 0, none⟩)) w := by
  have hf : Instr.findNow .string (.string p.name) (entriesOf (l1 ++ p :: l2)).toList 0 = some (some (0 + l1.length, .pointer (some ⟨p.blk, 0, none⟩))) := by simpa [entriesOf] using findNow_mid p.name p rfl l2 l1 0 hn
  simp only [Instr.lookup, Sem.run_bind, run_underlying Tryd.underlying74, Go.MapKept.run_getObj_map hM, Result.andThen, run_checkKey (kt := 9) Tryd.underlying9 (k := .string p.name) trivial, run_findKey Tryd.underlying9 hf, Sem.run_pure]
theorem upd_none (hM : w.heap[M]? = some (.map (entriesOf ps) clock)) (s : ByteArray) (v : Value) (h : ∀ p ∈ ps, p.name ≠ s) :
    (Instr.mapUpdate 74 (.map (some M)) (.string s) v).run Tryd.prog w = .ok () (w.putObj M (.map ((entriesOf ps).push { key := .string s, val := v, born := clock }) (clock + 1))) := by
  have hf : Instr.findNow .string (.string s) (entriesOf ps).toList 0 = some none := by simpa [entriesOf] using findNow_none s ps 0 h
  simp only [Instr.mapUpdate, Sem.run_bind, run_underlying Tryd.underlying74, Go.MapKept.run_getObj_map hM, Result.andThen, run_checkKey (kt := 9) Tryd.underlying9 (k := .string s) trivial, run_findKey Tryd.underlying9 hf, run_setObj_map _ hM]
  rfl
theorem modify_mid {α : Type} (f : α → α) (a : α) (l2 : List α) : ∀ (l1 : List α), (l1 ++ a :: l2).modify l1.length f = l1 ++ f a :: l2
  | [] => by simp
  | b :: l1 => by simp [modify_mid f a l2 l1]
theorem entriesOf_get : (entriesOf (l1 ++ p :: l2))[l1.length]? = some p.entry := by simp [entriesOf]
theorem stays (s : ByteArray) (w : World) : (Instr.keyThatStays (.string s) (.string s)).run Tryd.prog w = .ok (.string s) w := by
  have hs : Instr.sameBits 10000 (.string s) (.string s) = true := by
    show (s == s) = true
    exact (bytes_beq _ _).2 rfl
  unfold Instr.keyThatStays; rw [if_pos hs]; rfl
theorem upd_some (hM : w.heap[M]? = some (.map (entriesOf (l1 ++ p :: l2)) clock)) (hn : ∀ q ∈ l1, q.name ≠ p.name) (blk : Nat) :
    (Instr.mapUpdate 74 (.map (some M)) (.string p.name) (.pointer (some ⟨blk, 0, none⟩))).run Tryd.prog w = .ok () (w.putObj M (.map (entriesOf (l1 ++ { p with blk := blk } :: l2)) clock)) := by
  have hf : Instr.findNow .string (.string p.name) (entriesOf (l1 ++ p :: l2)).toList 0 = some (some (0 + l1.length, .pointer (some ⟨p.blk, 0, none⟩))) := by simpa [entriesOf] using findNow_mid p.name p rfl l2 l1 0 hn
  have hk := stays p.name w
  have he : (entriesOf (l1 ++ p :: l2)).modify (0 + l1.length) (fun e => { e with key := .string p.name, val := .pointer (some ⟨blk, 0, none⟩) }) = entriesOf (l1 ++ { p with blk := blk } :: l2) := by
    apply Array.ext'
    have := modify_mid (fun e : MapEntry => { e with key := .string p.name, val := .pointer (some ⟨blk, 0, none⟩) }) p.entry (l2.map PF.entry) (l1.map PF.entry)
    simp only [List.length_map] at this
    simpa [entriesOf, PF.entry] using this
  simp only [Instr.mapUpdate, Sem.run_bind, run_underlying Tryd.underlying74, Go.MapKept.run_getObj_map hM, Result.andThen, run_checkKey (kt := 9) Tryd.underlying9 (k := .string p.name) trivial, run_findKey Tryd.underlying9 hf]
  have hg : (((entriesOf (l1 ++ p :: l2))[0 + l1.length]?).map (·.key)).getD (.string p.name) = .string p.name := by
    rw [Nat.zero_add, entriesOf_get]; rfl
  rw [hg]
  simp only [Sem.run_bind, hk, Result.andThen, run_setObj_map _ hM, he, World.putObj]
theorem del_some (hM : w.heap[M]? = some (.map (entriesOf (l1 ++ p :: l2)) clock)) (hn : ∀ q ∈ l1, q.name ≠ p.name) (ty : TypeId) :
    (Builtin.delete_ #[74, 9] ty #[.map (some M), .string p.name]).run Tryd.prog w = .ok (.tuple #[]) (w.putObj M (.map (entriesOf (l1 ++ l2)) clock)) := by
  have hf : Instr.findNow .string (.string p.name) (entriesOf (l1 ++ p :: l2)).toList 0 = some (some (0 + l1.length, .pointer (some ⟨p.blk, 0, none⟩))) := by simpa [entriesOf] using findNow_mid p.name p rfl l2 l1 0 hn
  have he : (entriesOf (l1 ++ p :: l2)).eraseIdxIfInBounds (0 + l1.length) = entriesOf (l1 ++ l2) := by
    have hlt : l1.length < (entriesOf (l1 ++ p :: l2)).size := by simp [entriesOf]
    unfold Array.eraseIdxIfInBounds
    rw [Nat.zero_add, dif_pos hlt]
    apply Array.ext'
    simp [entriesOf, List.eraseIdx_append_of_length_le]
  simp [Builtin.delete_, run_underlying Tryd.underlying74, Go.MapKept.run_getObj_map hM, Result.andThen, run_checkKey (kt := 9) Tryd.underlying9 (k := .string p.name) trivial, run_findKey Tryd.underlying9 hf, run_setObj_map _ hM, World.putObj]
  rw [Nat.zero_add] at he
  rw [he]
/-- No such file: delete changes nothing (it is stored as it was). -/
theorem foot_append : foot F M (l1 ++ l2) = F :: M :: (l1.flatMap PF.blocks ++ l2.flatMap PF.blocks) := by simp [foot]
/-- A new file. -/
theorem FilesAt.insert (h : FilesAt w F M ps clock lim arm dn) (hk : Kept (fun k => k = M) w w')
    (hm : w'.heap[M]? = some (.map ((entriesOf ps).push p.entry) (clock + 1))) (hb : p.born = clock) (hp : p.At w') (hn : ∀ q ∈ ps, q.name ≠ p.name)
    (hd : ∀ k ∈ p.blocks, k ∉ foot F M ps) (hnd : p.blocks.Nodup) : FilesAt w' F M (ps ++ [p]) (clock + 1) lim arm dn := by
  refine ⟨hk.heap h.fb (fun e => h.ne.1 e), by rw [hm]; simp [entriesOf], ?_, ?_, ?_, ?_, ?_, h.lim0, h.arm0⟩
  · intro r hr
    rcases List.mem_append.1 hr with hr | hr
    · exact (h.at_ r hr).kept hk (fun k hkk e => (h.ne.2 r hr).2 (by subst e; exact hkk))
    · simp at hr; subst hr; exact hp
  · rw [List.map_append, List.nodup_append]
    refine ⟨h.names, by simp, ?_⟩
    intro a ha b hb e
    obtain ⟨q, hq, rfl⟩ := List.mem_map.1 ha
    simp at hb; subst hb
    exact hn q hq e
  · rw [List.map_append, List.nodup_append]
    refine ⟨h.borns, by simp, ?_⟩
    intro a ha b hb' e
    obtain ⟨q, hq, rfl⟩ := List.mem_map.1 ha
    simp at hb'; subst hb'
    have := h.old q hq; omega
  · intro r hr
    rcases List.mem_append.1 hr with hr | hr
    · have := h.old r hr; omega
    · simp at hr; subst hr; omega
  · have hs := h.sep
    have e1 : foot F M (ps ++ [p]) = foot F M ps ++ p.blocks := by simp [foot]
    rw [e1, List.nodup_append]
    exact ⟨hs, hnd, fun a ha b hb e => hd b hb (by subst e; exact ha)⟩
/-- A file goes. -/
theorem FilesAt.erase (h : FilesAt w F M (l1 ++ p :: l2) clock lim arm dn) (hk : Kept (fun k => k = M) w w')
    (hm : w'.heap[M]? = some (.map (entriesOf (l1 ++ l2)) clock)) : FilesAt w' F M (l1 ++ l2) clock lim arm dn := by
  have hmem : ∀ r ∈ l1 ++ l2, r ∈ l1 ++ p :: l2 := by intro r hr; rcases List.mem_append.1 hr with hr | hr <;> simp [hr]
  have hsub : (l1 ++ l2).Sublist (l1 ++ p :: l2) := List.Sublist.append (List.Sublist.refl _) (List.sublist_cons_self ..)
  refine ⟨hk.heap h.fb (fun e => h.ne.1 e), hm, ?_, (hsub.map _).nodup h.names, (hsub.map _).nodup h.borns, fun r hr => h.old r (hmem r hr), ?_, h.lim0, h.arm0⟩
  · intro r hr
    exact (h.at_ r (hmem r hr)).kept hk (fun k hkk e => (h.ne.2 r (hmem r hr)).2 (by subst e; exact hkk))
  · refine List.Sublist.nodup ?_ h.sep
    simp only [foot, List.flatMap_append, List.flatMap_cons]
    exact List.Sublist.cons_cons _ (List.Sublist.cons_cons _ (List.Sublist.append (List.Sublist.refl _) (List.sublist_append_right ..)))
/-- An entry comes to lead to a file that no other one leads to. -/
theorem FilesAt.point (h : FilesAt w F M (l1 ++ q :: l2) clock lim arm dn) (hk : Kept (fun k => k = M) w w') (hpn : p.name = q.name) (hpb : p.born = q.born)
    (hm : w'.heap[M]? = some (.map (entriesOf (l1 ++ p :: l2)) clock)) (hp : p.At w')
    (hd : ∀ k ∈ p.blocks, k ∉ foot F M (l1 ++ q :: l2)) (hnd : p.blocks.Nodup) : FilesAt w' F M (l1 ++ p :: l2) clock lim arm dn := by
  refine ⟨hk.heap h.fb (fun e => h.ne.1 e), hm, ?_, by simpa [hpn] using h.names, by simpa [hpb] using h.borns, ?_, ?_, h.lim0, h.arm0⟩
  · intro r hr
    rcases List.mem_append.1 hr with hr' | hr'
    · exact (h.at_ r (by simp [hr'])).kept hk (fun k hkk e => (h.ne.2 r (by simp [hr'])).2 (by subst e; exact hkk))
    · rcases List.mem_cons.1 hr' with rfl | hr'
      · exact hp
      · exact (h.at_ r (by simp [hr'])).kept hk (fun k hkk e => (h.ne.2 r (by simp [hr'])).2 (by subst e; exact hkk))
  · intro r hr
    rcases List.mem_append.1 hr with hr' | hr'
    · exact h.old r (by simp [hr'])
    · rcases List.mem_cons.1 hr' with rfl | hr'
      · rw [hpb]; exact h.old q (by simp)
      · exact h.old r (by simp [hr'])
  · have hs := h.sep
    have hd' := hd
    simp only [foot, List.flatMap_append, List.flatMap_cons] at hs hd ⊢
    rw [List.nodup_cons, List.nodup_cons] at hs ⊢
    obtain ⟨s1, s2, s3⟩ := hs
    rw [List.nodup_append] at s3
    obtain ⟨s4, s5, s6⟩ := s3
    rw [List.nodup_append] at s5
    obtain ⟨s7, s8, s9⟩ := s5
    simp only [List.mem_cons, List.mem_append] at s1 s2 hd
    refine ⟨?_, ?_, ?_⟩
    · simp only [List.mem_cons, List.mem_append]
      rintro (e | e | e | e)
      · exact s1 (.inl e)
      · exact s1 (.inr (.inl e))
      · exact hd F e (.inl rfl)
      · exact s1 (.inr (.inr (.inr e)))
    · simp only [List.mem_append]
      rintro (e | e | e)
      · exact s2 (.inl e)
      · exact hd M e (.inr (.inl rfl))
      · exact s2 (.inr (.inr e))
    · rw [List.nodup_append]
      refine ⟨s4, ?_, ?_⟩
      · rw [List.nodup_append]
        exact ⟨hnd, s8, fun a ha b hb e => hd a ha (by subst e; exact .inr (.inr (.inr (.inr hb))))⟩
      · intro a ha b hb e
        subst e
        rcases List.mem_append.1 hb with hb | hb
        · exact hd a hb (.inr (.inr (.inl ha)))
        · exact s6 a ha a (List.mem_append.2 (.inr hb)) rfl
end Go.Proofs.YtefpigakhhfcaaaDoor
end
