import Derived.Test.YtcifhfdjigfeiaaGreatDoorZv
/-! Pairs that stay while a store is called; All; a store that is dead. -/
section
set_option linter.unusedVariables false
set_option linter.unusedSimpArgs false
namespace Go.Proofs.YtcifhfdjigfeiaaGreatDoor
open Go.RowKit

def PsF (w : World) (T F M : Nat) (ps : List PF) (A : Option Addr) (ms : List PV) : Prop := ∀ W, Kept (fun k => k = T ∨ k ∈ foot F M ps) w W → PsAt W A ms
section
variable {w w' w0 : World} {T F M : Nat} {ps ps' : List PF} {A : Option Addr} {ms : List PV}
theorem PsF.moved (h : PsF w T F M ps A ms) (m : Moved w T F M ps ps' w') : PsF w' T F M ps' A ms := fun W hk =>
  h W (m.kept.trans hk fun i hi e => by
    rcases e with e | e
    · exact .inl e
    · exact .inr ((m.feet i e).resolve_right (by omega)))
theorem PsF.here (h : PsF w T F M ps A ms) : PsAt w A ms := h w (Kept.refl _ _)
theorem PsF.arg (h : PsAt w0 A ms) (hk : Kept (fun _ => False) w0 w) (hT : w0.heap.size ≤ T) (hf : ∀ k ∈ foot F M ps, w0.heap.size ≤ k) : PsF w T F M ps A ms := fun W hW =>
  h.kept (hk.trans hW fun i hi e => by
    rcases e with e | e
    · omega
    · have := hf i e; omega)
theorem OwnP.psF {W : World} {v : Value} {qs : List PV} (h : OwnP w W v qs) (hT : T < w.heap.size) (hf : ∀ k ∈ foot F M ps, k < w.heap.size) : ∃ A c, v = .slice A qs.length c ∧ (A = none → c = 0) ∧ PsF W T F M ps A qs := by
  obtain ⟨A, c, hv, hA, -, -⟩ := h.at_
  refine ⟨A, c, hv, hA, fun W' hW' => ?_⟩
  have h1 := own_kept h.row hW' fun k e e2 => by
    have := own_ge h.row k e
    rcases e2 with e2 | e2
    · omega
    · have := hf k e2; omega
  have h2 : ∀ q ∈ qs, q.Ok W' := fun q hq => PV.ok_own (own_kept (h.own q hq) hW' fun k e e2 => by
    have := own_ge (h.own q hq) k e
    rcases e2 with e2 | e2
    · omega
    · have := hf k e2; omega)
  obtain ⟨A', c', hv', -, -, -, hp, -⟩ := row_form h1 h2
  rw [hv] at hv'
  simp only [Value.slice.injEq] at hv'
  obtain ⟨rfl, -, -⟩ := hv'
  exact hp
end
set_option maxRecDepth 100000 in
set_option maxHeartbeats 4000000 in
theorem call_D (w : World) (T F M : Nat) (nm : ByteArray) (ps : List PF) (clock : Nat) (lim arm : Int) (dn dead : Bool) (v : Value) (qs : List PV) (next size : Nat) (h : CS w T F M nm ps clock lim arm dn v qs next size dead) (hq : qs.length ≤ 300000) (hb : ∀ q ∈ qs, q.b.length ≤ 1000000000) :
    Calls Tryz.prog 12 #[.pointer (some ⟨T, 0, none⟩)] w fun e w' => ∃ A' c' q', e = .returned (.slice A' q'.length c') ∧ (A' = none → c' = 0) ∧ PsAt w' A' q' ∧ q'.map PV.core = putC (qs.map PV.core) [] ∧ Kept (fun _ => False) w w' := by
  obtain ⟨Av, cv, rfl, hA, -, hat⟩ := h.at_
  have HC := Lib.hid (cloneP_any w Av qs.length cv qs rfl (by omega) hat hA)
  have H := Lib.hid h
  have Hb := Lib.hid hb
  have c2 := h.sb.c2
  have Hat := Lib.hid hat
  clear h hA hb hat
  go_enter Tryz.func12, Tryz.ntmps12
  go_wp2_with (first
    | (go_at_call 34; refine HC.out.mono ?_; rintro e w1 ⟨v1, rfl, ho, hk⟩; obtain ⟨A1, c1, hv1, hA1, -, -, hat1, -⟩ := row_form ho (fun q hq => (Hat.out.kept hk |> fun h9 => by obtain ⟨j, hj⟩ := List.getElem?_of_mem hq; obtain ⟨_, _, _, h3⟩ := h9 j q hj; exact h3)); subst hv1; have HK1 := Lib.hid hk; have HP1 := Lib.hid (kPut_any w1 A1 none qs.length c1 0 0 qs [] rfl rfl (by omega) Hb.out (fun p hp => by simp at hp) hat1 (PsAt.nil _ _)); clear ho hk hA1 hat1)
    | (go_at_call 33; refine HP1.out.mono ?_; rintro e w2 ⟨v2, q2, rfl, hp, hc⟩; obtain ⟨A2, c2', rfl, hA2, -, hat2⟩ := hp.at_; have HAt2 := Lib.hid hat2; have HA2 := Lib.hid hA2; have HC2 := Lib.hid hc; have HK2 := Lib.hid hp.kept; clear hp hc hA2 hat2))
  go_ret
  exact ⟨A2, c2', q2, rfl, HA2.out, HAt2.out, HC2.out, HK1.out.trans' HK2.out⟩
/-- A store whose files are down. -/
theorem cready_down (w : World) (T F M : Nat) (nm : ByteArray) (v : Value) (next size : Nat) (lim arm : Int) (dead : Bool) (h : SB w T F nm v next size dead) (hf : FB w F M lim arm true) :
    Calls Tryz.prog 37 #[.pointer (some ⟨T, 0, none⟩)] w fun e w' => e = .returned (.int .i64 13) ∧ SB w' T F nm v next size true ∧ Kept (fun k => k = T) w w' := by
  have c0 := h.c0
  have c5 := h.c5
  have HD := Lib.hid (down_any w F M lim arm true hf)
  have HM := Lib.hid (met_any w T F nm v next size dead 13 h)
  clear h hf
  cases dead
  · go_enter Tryz.func37, Tryz.ntmps37
    go_wp2_with (first
      | (go_at_call 18; refine HD.out.mono ?_; rintro e w9 ⟨rfl, rfl⟩)
      | (go_at_call 39; refine HM.out.mono ?_; rintro e w8 ⟨rfl, hsb, hk⟩; have HS := Lib.hid hsb; have HK := Lib.hid hk; clear hsb hk))
    go_ret
    exact ⟨rfl, by simpa using HS.out, HK.out⟩
  · go_enter Tryz.func37, Tryz.ntmps37
    go_wp2_with (first
      | (go_at_call 18; refine HD.out.mono ?_; rintro e w9 ⟨rfl, rfl⟩)
      | (go_at_call 39; refine HM.out.mono ?_; rintro e w8 ⟨rfl, hsb, hk⟩; have HS := Lib.hid hsb; have HK := Lib.hid hk; clear hsb hk))
    go_ret
    exact ⟨rfl, by simpa using HS.out, HK.out⟩
theorem put_down (w : World) (T F M : Nat) (nm : ByteArray) (v : Value) (next size : Nat) (lim arm : Int) (dead : Bool) (l : Value) (h : SB w T F nm v next size dead) (hf : FB w F M lim arm true) :
    Calls Tryz.prog 21 #[.pointer (some ⟨T, 0, none⟩), l] w fun e w' => e = .returned (.int .i64 13) ∧ SB w' T F nm v next size true ∧ Kept (fun k => k = T) w w' := by
  have HR := Lib.hid (cready_down w T F M nm v next size lim arm dead h hf)
  clear h hf
  go_enter Tryz.func21, Tryz.ntmps21
  go_wp2_with (go_at_call 37; refine HR.out.mono ?_; rintro e w1 ⟨rfl, hsb, hk⟩; have HS := Lib.hid hsb; have HK := Lib.hid hk; clear hsb hk)
  go_ret
  exact ⟨rfl, HS.out, HK.out⟩
theorem compact_down (w : World) (T F M : Nat) (nm : ByteArray) (v : Value) (next size : Nat) (lim arm : Int) (dead : Bool) (h : SB w T F nm v next size dead) (hf : FB w F M lim arm true) :
    Calls Tryz.prog 17 #[.pointer (some ⟨T, 0, none⟩)] w fun e w' => e = .returned (.int .i64 13) ∧ SB w' T F nm v next size true ∧ Kept (fun k => k = T) w w' := by
  have HR := Lib.hid (cready_down w T F M nm v next size lim arm dead h hf)
  clear h hf
  go_enter Tryz.func17, Tryz.ntmps17
  go_wp2_with (go_at_call 37; refine HR.out.mono ?_; rintro e w1 ⟨rfl, hsb, hk⟩; have HS := Lib.hid hsb; have HK := Lib.hid hk; clear hsb hk)
  go_ret
  exact ⟨rfl, HS.out, HK.out⟩
end Go.Proofs.YtcifhfdjigfeiaaGreatDoor
end

/-! One file, or none, and its falls; frames cut off. -/
section
set_option linter.unusedVariables false
set_option linter.unusedSimpArgs false
namespace Go.Proofs.YtcifhfdjigfeiaaGreatDoor
open Go.RowKit

theorem only_D {ps : List PF} {nk : ByteArray} (hn : (ps.map PF.name).Nodup) (h : ∀ s, s ≠ nk → lk ps s = none) : (∀ p ∈ ps, p.name = nk) ∧ ps.length ≤ 1 ∧ usedL ps = szV (lk ps nk) := by
  have h1 : ∀ p ∈ ps, p.name = nk := fun p hp => by
    by_cases e : p.name = nk
    · exact e
    · exact absurd (h _ e) (lk_mem hp)
  refine ⟨h1, ?_, ?_⟩
  · have := len_sub (S := [nk]) hn fun x hx => by
      obtain ⟨p, hp, rfl⟩ := List.mem_map.1 hx
      rw [h1 p hp]; exact List.mem_cons_self
    simpa using this
  · have := used_sum (S := [nk]) (by simp) hn fun p hp => by rw [h1 p hp]; exact List.mem_cons_self
    simpa using this
theorem FellV.of_some {b : List UInt8} {s : Nat} {y : Option FV} (h : FellV (some (b, s)) y) : ∃ k, s ≤ k ∧ k ≤ b.length ∧ y = some (b.take k, k) := by
  rcases h with ⟨h, _⟩ | ⟨b', s', k, h, h1, h2, h3⟩
  · cases h
  · injection h with h
    injection h with h4 h5
    subst h4; subst h5
    exact ⟨k, h1, h2, h3⟩
theorem FellV.of_none {y : Option FV} (h : FellV none y) : y = none := by
  rcases h with ⟨_, h⟩ | ⟨b', s', k, h, _⟩
  · exact h
  · cases h
theorem few_fit {ps : List PV} (h : fewP ps = true) : ps.length ≤ 10000 ∧ (bytesP ps).length ≤ 32768 ∧ ∀ p ∈ ps, p.key.size ≤ 32768 ∧ p.b.length ≤ 32768 := by
  obtain ⟨h1, h2, h3⟩ := few_small h
  exact ⟨by omega, by omega, fun p hp => by have := h2 p hp; unfold wt at this; omega⟩
theorem kis_two {ps1 ps2 : List PV} (h1 : fewP ps1 = true) (h2 : fewP ps2 = true) {j : Nat} (hj : (frameB 0 (bytesP ps1)).length ≤ j) (hj2 : j ≤ (frameB 0 (bytesP ps1) ++ frameB 1 (bytesP ps2)).length) :
    ∃ parts t, KIs (some ((frameB 0 (bytesP ps1) ++ frameB 1 (bytesP ps2)).take j, j)) parts t ∧ (parts = [ps1] ∨ parts = [ps1, ps2]) ∧ (j = (frameB 0 (bytesP ps1) ++ frameB 1 (bytesP ps2)).length → parts = [ps1, ps2]) := by
  have g1 := few_fit h1
  have g2 := few_fit h2
  have g3 := (few_small h1).1
  have g4 := (few_small h2).1
  by_cases he : j = (frameB 0 (bytesP ps1) ++ frameB 1 (bytesP ps2)).length
  · refine ⟨[ps1, ps2], [], ⟨.inr ⟨j, ?_⟩, ⟨[], 0, by simp, by rw [frameB_len]; simp, rfl⟩, fun l hl => ?_, by simp, by simp; omega⟩, .inr rfl, fun _ => rfl⟩
    · rw [he, List.take_length]; simp [frsL]
    · simp only [List.mem_cons, List.not_mem_nil, or_false] at hl
      rcases hl with rfl | rfl
      · exact g1
      · exact g2
  · refine ⟨[ps1], (frameB 1 (bytesP ps2)).take (j - (frameB 0 (bytesP ps1)).length), ⟨.inr ⟨j, ?_⟩, ⟨bytesP ps2, j - (frameB 0 (bytesP ps1)).length, g2.2.1, ?_, rfl⟩, fun l hl => ?_, by simp, by simp; omega⟩, .inl rfl, fun e => absurd e he⟩
    · rw [List.take_append, List.take_of_length_le hj]; simp [frsL]
    · rw [List.length_append] at he hj2
      show _ < (frameB 1 (bytesP ps2)).length
      omega
    · rw [List.mem_singleton.1 hl]; exact g1
/-- Names that are not too long, few files. -/
theorem only_small {ps : List PF} {nk : ByteArray} (hn : (ps.map PF.name).Nodup) (h : ∀ s, s ≠ nk → lk ps s = none) (hs : nk.size ≤ 1000000) : ps.length ≤ 1000000 ∧ ∀ p ∈ ps, p.name.size ≤ 1000000 := by
  have h1 := only_D hn h
  exact ⟨by omega, fun p hp => by rw [h1.1 p hp]; exact hs⟩
theorem Moved.hit {w w1 : World} {T F M : Nat} {ps : List PF} (h : Kept (fun k => k = F) w w1) : Moved w T F M ps ps w1 := ⟨h.mono fun k _ e => .inr (by subst e; simp [foot]), fun k e => .inl e⟩
theorem Moved.opened {w w1 : World} {T F M : Nat} {ps ps' : List PF} (h : Kept (fun k => k ∈ foot F M ps) w w1) (hf : ∀ k ∈ foot F M ps', k ∈ foot F M ps ∨ w.heap.size ≤ k) : Moved w T F M ps ps' w1 := ⟨h.mono fun k _ e => .inr e, hf⟩
/-- Blocks that came behind a world. -/
theorem Moved.new {w0 w w1 : World} {T F M : Nat} {ps ps' : List PF} (h : Moved w T F M ps ps' w1) (hw : w0.heap.size ≤ w.heap.size) (hf : ∀ k ∈ foot F M ps, w0.heap.size ≤ k) : ∀ k ∈ foot F M ps', w0.heap.size ≤ k := fun k hk => (h.feet k hk).elim (hf k) fun e => Nat.le_trans hw e
theorem Moved.none_ {w0 w w1 : World} {T F M : Nat} {ps ps' : List PF} (h : Moved w T F M ps ps' w1) (h0 : Kept (fun _ => False) w0 w) (hT : w0.heap.size ≤ T) (hf : ∀ k ∈ foot F M ps, w0.heap.size ≤ k) : Kept (fun _ => False) w0 w1 :=
  h0.trans h.kept fun i hi e => by
    rcases e with e | e
    · omega
    · have := hf i e; omega
theorem CS.fresh {w : World} {T F M : Nat} {nm : ByteArray} {lim : Int} {clock : Nat} (hf : FilesAt w F M [] clock lim 0 false) (hs : SB w T F nm (.slice none 0 0) 0 0 false) (hT : T ∉ foot F M []) : CS w T F M nm [] clock lim 0 false (.slice none 0 0) [] 0 0 false :=
  ⟨hf, hs, World.ownsRow_nil _ _ _ _, fun q h => by simp at h, hT, fun k e => by simp [Value.ownBlock] at e, fun q h => by simp at h⟩
theorem CS.armed {w w' : World} {T F M : Nat} {nm : ByteArray} {ps : List PF} {clock : Nat} {lim lim' arm arm' : Int} {dn : Bool} {v : Value} {qs : List PV} {next size : Nat} {dead : Bool} (h : CS w T F M nm ps clock lim arm dn v qs next size dead) (hb : FB w' F M lim' arm' dn) (hk : Kept (fun k => k = F) w w') (hl : 0 ≤ lim' ∧ lim' ≤ 4194304) (ha : 0 ≤ arm' ∧ arm' ≤ 9223372036854775807) : CS w' T F M nm ps clock lim' arm' dn v qs next size dead :=
  h.went ⟨h.f.own hk hb hl ha, hk.ofF, fun k hk => .inl hk⟩
theorem fits_no {ps : List PF} {n : Nat} {lim : Int} (h : lim < (n : Int) + (usedL ps : Int)) {u : Nat} (hu : usedL ps = u) (h2 : (n : Int) + (u : Int) ≤ lim) : False := by rw [hu] at h; omega
end Go.Proofs.YtcifhfdjigfeiaaGreatDoor
end
