import Derived.Test.YthkncfdgfbnchaaDoorZj
/-! courantlaw23.awake. -/
section
set_option linter.unusedVariables false
set_option linter.unusedSimpArgs false
namespace Go.Proofs.YthkncfdgfbnchaaDoor
open Go.RowKit

def nA : ByteArray := ⟨#[97]⟩
theorem nA_full : fullB (nA ++ dotK) = true := by kernel_rfl
theorem one_len (A : Option Addr) (c : Nat) : (bytesP [⟨⟨#[107]⟩, [1], false, A, c⟩]).length = 6 := rfl
theorem bound1000 : boundI 1000 = 1000 := by decide
theorem one_core (A : Option Addr) (c : Nat) : putC (([] : List PV).map PV.core) ([(⟨⟨#[107]⟩, [1], false, A, c⟩ : PV)].map PV.core) = [(⟨#[107]⟩, [1], false)] := rfl
theorem core_one {qs : List PV} {c : Core} (h : qs.map PV.core = [c]) : qs.length = 1 ∧ ∀ q ∈ qs, q.core = c := by
  have h1 := congrArg List.length h
  simp at h1
  refine ⟨h1, fun q hq => ?_⟩
  have : q.core ∈ qs.map PV.core := List.mem_map_of_mem hq
  rw [h] at this
  simpa using this
/-- A store that was just opened. -/
theorem SAt.fresh {Z : Nat → Prop} {w : World} {T F M : Nat} {nm : ByteArray} {lim : Int} {clock : Nat} (hf : FilesAt w F M [] clock lim 0 false) (hs : SB w T F nm (.slice none 0 0) 0 0 false) (hT : T ∉ foot F M []) (zT : Z T) (zf : ∀ k ∈ foot F M [], Z k) : SAt Z w T F M nm [] clock lim (.slice none 0 0) [] 0 0 :=
  ⟨hf, hs, World.ownsRow_nil _ _ _ _, fun q h => by simp at h, hT, fun k e => by simp [Value.ownBlock] at e, fun q h => by simp at h, zT, zf⟩
set_option maxRecDepth 100000 in
set_option maxHeartbeats 4000000 in
theorem awake23_any (w : World) : Calls Tryd.prog 36 #[] w fun e w' => e = .returned (.bool true) ∧ Kept (fun _ => False) w w' := by
  have HN := Lib.hid (new_any w 1000)
  go_enter Tryd.func36, Tryd.ntmps36
  go_upto_region 2 with (first
    | (go_at_call 10; refine HN.out.mono ?_; rintro e w1 ⟨F, M, rfl, hF, hk, hF1, hM1⟩; have HF := Lib.hid hF; have HK1 := Lib.hid hk; have HF1 := Lib.hid hF1; have HM1 := Lib.hid hM1; clear hF hk hF1 hM1)
    | (go_at_call 35; refine (open_new w1 F M [] 0 (boundI 1000) 0 nA (by decide) nA_full HF.out (by simp) (by simp)).mono ?_; rintro e w2 ⟨T, rfl, hT, hsb, hk2⟩; have HT := Lib.hid hT; have HSB := Lib.hid hsb; have HK2 := Lib.hid hk2; clear hT hsb hk2))
  obtain ⟨b, hb⟩ : ∃ b, b = w2.heap.size := ⟨_, rfl⟩
  obtain ⟨W4, hW4⟩ : ∃ W4, W4 = (w2.alloc (.cells #[.int .u8 1] 5)).alloc (.cells #[.string ⟨#[107]⟩, .slice (some ⟨w2.heap.size, 0, none⟩) 1 1, .bool false] 77) := ⟨_, rfl⟩
  have hk4 : Kept (fun _ => False) w2 W4 := by rw [hW4]; exact ((Kept.refl _ w2).alloc _).alloc _
  have hs4 : W4.heap.size = b + 2 := by rw [hW4, hb]; simp
  have h1 : W4.heap[b]? = some (.cells #[.int .u8 1] 5 (0, 0)) := by
    rw [hW4, hb, heap_alloc_old _ _ (by simp)]; exact heap_alloc_new w2 _
  have h2 : W4.heap[b + 1]? = some (.cells #[.string ⟨#[107]⟩, .slice (some ⟨b, 0, none⟩) 1 1, .bool false] 77 (0, 0)) := by
    have := heap_alloc_new (w2.alloc (.cells #[.int .u8 1] 5)) (.cells #[.string ⟨#[107]⟩, .slice (some ⟨w2.heap.size, 0, none⟩) 1 1, .bool false] 77)
    rw [World.size_alloc] at this
    rw [hW4, hb]; exact this
  have hTb : T < b := by rw [hb]; exact (Array.getElem?_eq_some_iff.1 (show w2.heap[T]? = _ from HSB.out)).1
  have hft : ∀ k ∈ foot F M [], k < w1.heap.size := fun k hm => HF.out.lt k hm
  have hst : SAt (fun k => w.heap.size ≤ k ∧ k ≠ b ∧ k ≠ b + 1) W4 T F M nA [] 0 (boundI 1000) (.slice none 0 0) [] 0 0 :=
    SAt.fresh ((HF.out.kept HK2.out (by simp)).kept hk4 (by simp)) (HSB.out.kept' hk4) (fun hm => by have := hft T hm; have := HT.out; omega) (by have := HT.out; have := HK1.out.size; refine ⟨by omega, by omega, by omega⟩) (fun k hm => by have := hft k hm; have := HT.out; have h1 := HF1.out; have h2 := HM1.out; have h3 := HK1.out.size; have h4 := HK2.out.size; have : k = F ∨ k = M := (by simpa [foot] using hm); refine ⟨by omega, by omega, by omega⟩)
  have hps : PsL (fun k => w.heap.size ≤ k ∧ k ≠ b ∧ k ≠ b + 1) W4 (some ⟨b + 1, 0, none⟩) [⟨⟨#[107]⟩, [1], false, some ⟨b, 0, none⟩, 1⟩] := by
    intro W hW
    have g1 := hW.heap h1 (by simp)
    have g2 := hW.heap h2 (by simp)
    intro j p hp
    cases j with
    | zero =>
      simp at hp; subst hp
      refine ⟨_, rfl, ?_, ⟨(fun e => by cases e), fun ad e j u hu => ?_⟩, (fun e => by cases e)⟩
      · have e0 : (⟨b + 1, 0, none⟩ : Addr).add (0 * 3) = ⟨b + 1, 0, none⟩ := by simp [Addr.add]
        rw [e0]
        exact ⟨by simp [World.cell?, g2], by simp [World.cell?, g2, PV.val], by simp [World.cell?, g2]⟩
      · injection e with e
        subst e
        cases j with
        | zero => simp at hu; subst hu; simp [Addr.add, World.cell?, g1, bv]
        | succ j => simp at hu
    | succ j => simp at hp
  have HPut := Lib.hid (cput_ok _ W4 T F M nA [] 0 (boundI 1000) (.slice none 0 0) [] 0 0 [] false (some ⟨b + 1, 0, none⟩) 1 1 [⟨⟨#[107]⟩, [1], false, some ⟨b, 0, none⟩, 1⟩] hst (.inl ⟨rfl, rfl, rfl⟩) rfl hps (fun k hk => by have h3 := HK1.out.size; have h4 := HK2.out.size; refine ⟨by omega, by omega, by omega⟩) (by simp) (by simp) (by simp) (by rw [one_len]; omega) (by omega) (by omega) (by rw [one_len, bound1000]; simp) (by decide) nA_full)
  have Hk4 := Lib.hid hk4
  have Hb := Lib.hid hb
  clear h1 h2 hst hps hs4 hTb hft hk4
  go_wp2_with (first
    | (go_at_call 38; rw [← hW4, ← hb]; refine HPut.out.mono ?_; rintro e w5 ⟨rfl, ps5, clk5, v5, q5, hst5, -, hc5, hk5⟩; rw [one_core] at hc5; have HC5 := Lib.hid hc5; have HK5 := Lib.hid hk5; have HAll := Lib.hid (call_any _ w5 T F M nA ps5 clk5 _ v5 q5 _ _ hst5 (by rw [(core_one hc5).1]; omega) (fun q hq => by have h9 := (core_one hc5).2 q hq; have h8 : q.b = [1] := congrArg (fun c : Core => c.2.1) h9; rw [h8]; simp)); clear hst5 hc5 hk5)
    | (go_at_call 42; refine HAll.out.mono ?_; rintro e w6 ⟨A6, c6, q6, rfl, hA6, -, hc6, hk6⟩; rw [HC5.out] at hc6; have hl6 : q6.length = 1 := (core_one (hc6.trans rfl)).1; rw [hl6]; have HK6 := Lib.hid hk6; clear hA6 hc6 hk6))
  go_ret
  refine ⟨rfl, ?_⟩
  have hk24 : Kept (fun _ => False) w W4 := ((HK1.out.trans' HK2.out).trans' Hk4.out)
  refine (hk24.trans HK5.out fun i hi e => by omega).trans' HK6.out
end Go.Proofs.YthkncfdgfbnchaaDoor
end

/-! courantlaw23.CompactNil, walked. -/
section
set_option linter.unusedVariables false
set_option linter.unusedSimpArgs false
namespace Go.Proofs.YthkncfdgfbnchaaDoor
open Go.RowKit

def nAB : ByteArray := ⟨#[97, 32, 98]⟩
theorem nAB_full : fullB (nAB ++ dotK) = false := by kernel_rfl
set_option maxRecDepth 100000 in
set_option maxHeartbeats 4000000 in
theorem cnil_any (w : World) (nm : ByteArray) (A : Option Addr) (n c : Nat) (ps : List PV) (hn : n = ps.length) (hn9 : n ≤ 140737488355328) (h : PsAt w A ps) (hz : ∀ p ∈ ps, p.Sz) :
    Calls Tryd.prog 9 #[.string nm, .slice A n c] w fun e w' => e = .returned (.bool true) ∧ Kept (fun _ => False) w w' := by
  have HFew : Hid (∀ W, Kept (fun _ => False) w W → Calls Tryd.prog 37 #[.slice A n c] W fun e w' => e = .returned (.bool (fewP ps)) ∧ ∃ m, w' = W.drewN m) := Lib.hid fun W hk => few_any W A n c ps hn hn9 (h.kept hk) hz
  have HN := Lib.hid fun W => new_any W 100
  obtain ⟨r, hr⟩ : ∃ r, r = fewP ps := ⟨_, rfl⟩
  rw [← hr] at HFew
  clear hr hn h hz
  cases r
  all_goals go_enter Tryd.func9, Tryd.ntmps9
  all_goals go_upto_region 3 with (go_at_call 35; refine (open_nil _ nm).mono ?_; rintro e w1 ⟨rfl, hw⟩; subst hw)
  all_goals go_upto_region 4 with (first
    | (go_at_call 10; refine (HN.out _).mono ?_; rintro e w1 ⟨F, M, rfl, hF, hk, hF1, hM1⟩; have HK1 := Lib.hid hk; clear hF hk hF1 hM1)
    | (go_at_call 35; refine (open_bad w1 F nAB (by decide) nAB_full).mono ?_; rintro e w2 ⟨rfl, hk⟩; have HK2 := Lib.hid (HK1.out.trans' hk); clear hk))
  all_goals go_wp2_with (first
    | (go_at_call 36; refine (awake23_any w2).mono ?_; rintro e w3 ⟨rfl, hk⟩; have HK3 := Lib.hid (HK2.out.trans' hk); clear hk)
    | (go_at_call 37; refine (HFew.out w3 HK3.out).mono ?_; rintro e w4 ⟨rfl, mm, rfl⟩)
    | (go_at_call 38; refine (cput_nil _ _).mono ?_; rintro e w5 ⟨rfl, hw⟩; subst hw)
    | (go_at_call 40; refine (ccompact_nil _).mono ?_; rintro e w5 ⟨rfl, hw⟩; subst hw)
    | (go_at_call 42; refine (call_nil _).mono ?_; rintro e w5 ⟨rfl, hw⟩; subst hw)
    | (go_at_call 43; refine (csize_nil _).mono ?_; rintro e w5 ⟨rfl, hw⟩; subst hw))
  all_goals
    go_ret
    exact ⟨rfl, HK3.out.drewN _⟩
end Go.Proofs.YthkncfdgfbnchaaDoor
end
