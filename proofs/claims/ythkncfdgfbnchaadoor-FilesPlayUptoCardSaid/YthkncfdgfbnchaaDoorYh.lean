import Derived.Test.YthkncfdgfbnchaaDoorD7
import Derived.Test.YthkncfdgfbnchaaDoorYa
import Derived.Deep.Cut
import Derived.Deep.RegionHeld3
import Derived.Test.YthkncfdgfbnchaaDoorYd
import Derived.Test.YthkncfdgfbnchaaDoorYe
import Derived.Test.YthkncfdgfbnchaaDoorYf
import Derived.Test.YthkncfdgfbnchaaDoorD10
/-! Package files: Fork. -/
section
set_option linter.unusedVariables false
set_option linter.unusedSimpArgs false
namespace Go.Proofs.YthkncfdgfbnchaaDoor
open Go.RowKit

/-- What a file is, wherever it lies. -/
def PF.core (p : PF) : ByteArray × List UInt8 × Nat := (p.name, p.b, p.safe)
/-- A new file, with bytes of its own. -/
theorem insert_gen {W W1 W2 : World} {F M B base : Nat} {ps : List PF} {s : ByteArray} {clock sf : Nat} {lim arm : Int} {dn : Bool} {v : Value} {xs : List UInt8} (h : FilesAt W F M ps clock lim arm dn) (hno : ∀ q ∈ ps, q.name ≠ s)
    (hown : W.ownsRow base 5 1 v xs.length (xs.map bv)) (hb : ∀ k ∈ foot F M ps, k < base) (hs : sf ≤ xs.length) (hl : xs.length ≤ 4194304)
    (hB : B = W.heap.size) (hW1 : W1 = W.alloc (.cells #[v, .int .i64 (sf : Nat)] 88)) (hW2 : W2 = W1.putObj M (.map ((entriesOf ps).push { key := .string s, val := .pointer (some ⟨B, 0, none⟩), born := clock }) (clock + 1))) :
    (Instr.mapUpdate 80 (.map (some M)) (.string s) (.pointer (some ⟨B, 0, none⟩))).run Tryd.prog W1 = .ok () W2 ∧
    FilesAt W2 F M (ps ++ [⟨s, xs, sf, B, v, clock⟩]) (clock + 1) lim arm dn ∧ Kept (fun k => k = M) W W2 ∧ ∀ k ∈ foot F M (ps ++ [⟨s, xs, sf, B, v, clock⟩]), k ∈ foot F M ps ∨ k = B ∨ base ≤ k := by
  have hk1 : Kept (fun _ => False) W W1 := by rw [hW1]; exact (Kept.refl _ W).alloc _
  have h1 := h.kept hk1 (by simp)
  have hk2 : Kept (fun k => k = M) W1 W2 := by rw [hW2]; exact putObj_kept _ _ _
  have hM : M < W1.heap.size := h1.lt M (by simp [foot])
  have hm2 : W2.heap[M]? = some (.map ((entriesOf ps).push (PF.entry ⟨s, xs, sf, B, v, clock⟩)) (clock + 1)) := by rw [hW2]; exact World.putObj_heap_same hM
  have hMW : M < W.heap.size := h.lt M (by simp [foot])
  have hMb : M < base := hb M (by simp [foot])
  have hge := own_ge hown
  have hlt : ∀ k, v.ownBlock = some k → k < W.heap.size := fun k e => own_lt' hown k e
  have hB1 : W1.heap[B]? = some (.cells #[v, .int .i64 (sf : Nat)] 88 (0, 0)) := by rw [hW1, hB]; exact heap_alloc_new W _
  have hB2 : W2.heap[B]? = some (.cells #[v, .int .i64 (sf : Nat)] 88 (0, 0)) := hk2.heap hB1 (by omega)
  have hp : (PF.mk s xs sf B v clock).At W2 := ⟨hB2, own_base (own_kept (own_kept hown hk1 (by simp)) hk2 fun k e e2 => by have := hge k e; omega), hs, hl⟩
  have hbl : ∀ k ∈ (PF.mk s xs sf B v clock).blocks, k = B ∨ (base ≤ k ∧ k < W.heap.size) := by
    intro k hk
    simp only [PF.blocks, List.mem_cons, Option.mem_toList] at hk
    rcases hk with hk | hk
    · exact .inl hk
    · exact .inr ⟨hge k hk, hlt k hk⟩
  have hins := h1.insert hk2 hm2 rfl hp hno (fun k hk hf => by
    have h3 := hb k hf
    have h4 := h.lt k hf
    rcases hbl k hk with h5 | h5 <;> omega) (by
    simp only [PF.blocks, List.nodup_cons, Option.mem_toList]
    refine ⟨fun e => by have := hlt B e; omega, ?_⟩
    cases v.ownBlock <;> simp)
  refine ⟨by rw [hW2]; exact upd_none h1.map s _ hno, hins, (hk1.mono fun _ _ h => h.elim).trans' hk2, fun k hk => ?_⟩
  have : k ∈ foot F M ps ∨ k ∈ (PF.mk s xs sf B v clock).blocks := by
    simp only [foot, List.flatMap_append, List.mem_cons, List.mem_append, List.flatMap_cons, List.flatMap_nil, List.append_nil] at hk ⊢
    rcases hk with hk | hk | hk | hk <;> simp [hk]
  rcases this with h5 | h5
  · exact .inl h5
  · exact .inr ((hbl k h5).imp id fun h => h.1)
theorem left_core (ps : List PF) (hb : (ps.map PF.born).Nodup) (seen : Array Nat) (p : PF) (hp : p ∈ leftL ps seen) :
    ((leftL ps seen).map PF.core).Perm (p.core :: (leftL ps (seen.push p.born)).map PF.core) := by
  have hpp := (List.mem_filter.1 hp).1
  have hps := (List.mem_filter.1 hp).2
  obtain ⟨l1, l2, rfl⟩ := List.append_of_mem hpp
  have hne : ∀ q ∈ l1 ++ l2, q.born ≠ p.born := by
    simp only [List.map_append, List.map_cons] at hb
    rw [List.nodup_append] at hb
    obtain ⟨_, h2, h3⟩ := hb
    rw [List.nodup_cons] at h2
    intro q hq e
    rcases List.mem_append.1 hq with hq | hq
    · exact h3 q.born (List.mem_map.2 ⟨q, hq, rfl⟩) p.born (by simp) e
    · exact h2.1 (by rw [← e]; exact List.mem_map.2 ⟨q, hq, rfl⟩)
  have e : ∀ l : List PF, (∀ q ∈ l, q.born ≠ p.born) → l.filter (fun q => !(seen.push p.born).contains q.born) = l.filter (fun q => !seen.contains q.born) := by
    intro l hl
    apply List.filter_congr
    intro q hq
    have := hl q hq
    rw [Array.contains_push]
    simp [this]
  have h1 := e l1 (fun q hq => hne q (by simp [hq]))
  have h2 := e l2 (fun q hq => hne q (by simp [hq]))
  have hin : (!(seen.push p.born).contains p.born) = false := by simp
  simp only [leftL, List.filter_append, List.filter_cons, hin, hps, if_true, h1, h2, List.map_append, List.map_cons]
  exact List.perm_middle
end Go.Proofs.YthkncfdgfbnchaaDoor
end

/-! Package files: Fork, walked. -/
section
set_option linter.unusedVariables false
set_option linter.unusedSimpArgs false
namespace Go.Proofs.YthkncfdgfbnchaaDoor
open Go.RowKit

/-- How far a fork is. -/
structure Fk (w wr : World) (F M G M2 r : Nat) (ps qs : List PF) (clock clk : Nat) (lim arm : Int) (dn : Bool) (seen : Array Nat) : Prop where
  at_ : FilesAt wr G M2 qs clk lim arm dn
  core : (qs.map PF.core ++ (leftL ps seen).map PF.core).Perm (ps.map PF.core)
  it : wr.heap[r]? = some (.mapIter (some M) clock seen clock)
  kept : Kept (fun _ => False) w wr
  new : ∀ k ∈ foot G M2 qs, w.heap.size ≤ k ∧ k ≠ r
def ForkPost (w : World) (ps : List PF) (lim arm : Int) (dn : Bool) (e : Ending) (w' : World) : Prop :=
  ∃ G M2 qs clk, e = .returned (.pointer (some ⟨G, 0, none⟩)) ∧ FilesAt w' G M2 qs clk lim arm dn ∧ (qs.map PF.core).Perm (ps.map PF.core) ∧ Kept (fun _ => False) w w' ∧ ∀ k ∈ foot G M2 qs, w.heap.size ≤ k
set_option maxRecDepth 100000 in
set_option maxHeartbeats 8000000 in
theorem fork_any (w : World) (F M : Nat) (ps : List PF) (clock : Nat) (lim arm : Int) (dn : Bool) (h : FilesAt w F M ps clock lim arm dn) :
    Calls Tryd.prog 34 #[.pointer (some ⟨F, 0, none⟩)] w (ForkPost w ps lim arm dn) := by
  have hmm := @run_makeMap Tryd.prog
  have h0 := FB.c0 (show FB w F M lim arm dn from h.fb)
  have h1 := FB.c1 (show FB w F M lim arm dn from h.fb)
  have h2 := FB.c2 (show FB w F M lim arm dn from h.fb)
  have h3 := FB.c3 (show FB w F M lim arm dn from h.fb)
  have HF := Lib.hid h
  have hFlt : F < w.heap.size := h.lt F (by simp [foot])
  clear h
  go_enter Tryd.func34, Tryd.ntmps34
  go_upto_region 5 with fail
  obtain ⟨W1, hW1⟩ : ∃ W1, W1 = (w.alloc (.cells #[.map (some (w.heap.size + 1)), .int .i64 lim, .int .i64 arm, .bool dn] 83)).alloc (.map #[] 0) := ⟨_, rfl⟩
  obtain ⟨G, hG⟩ : ∃ G, G = w.heap.size := ⟨_, rfl⟩
  have hk1 : Kept (fun _ => False) w W1 := by rw [hW1]; exact ((Kept.refl _ w).alloc _).alloc _
  have hs1 : W1.heap.size = G + 2 := by rw [hW1, hG]; simp
  have hA1 : FilesAt W1 G (G + 1) [] 0 lim arm dn := by
    refine ⟨?_, ?_, by simp, by simp, by simp, by simp, ?_, HF.out.lim0, HF.out.arm0⟩
    · rw [hW1, hG, Below.heap_alloc _ _ _ (by rw [World.size_alloc]; omega)]
      exact heap_alloc_new w _
    · rw [hW1, hG]
      have := heap_alloc_new (w.alloc (.cells #[.map (some (w.heap.size + 1)), .int .i64 lim, .int .i64 arm, .bool dn] 83)) (.map #[] 0)
      rw [World.size_alloc] at this
      exact this
    · simp [foot]
  rw [← hG] at hW1 ⊢
  rw [← hW1]
  have HA1 := Lib.hid hA1
  have HK1 := Lib.hid hk1
  have HG := Lib.hid hG
  have Hs1 := Lib.hid hs1
  have hFW := HF.out.kept hk1 (by simp)
  have h0 := FB.c0 (show FB W1 F M lim arm dn from hFW.fb)
  have hrg : (Instr.range 80 (.map (some M))).run Tryd.prog W1 = .ok (.pointer (some ⟨W1.heap.size, 0, none⟩)) (W1.alloc (.mapIter (some M) clock #[] clock)) := by
    simp only [Instr.range, Sem.run_bind, run_underlying Tryd.underlying80, Go.MapKept.run_getObj_map hFW.map, Result.andThen]
    rfl
  clear hW1 hk1 hG hs1 hA1 hFW h1 h2 h3 hmm
  go_wp2_with fail
  obtain ⟨r, hr⟩ : ∃ r, r = W1.heap.size := ⟨_, rfl⟩
  have hr0 : (W1.alloc (.mapIter (some M) clock #[] clock)).heap[r]? = some (.mapIter (some M) clock #[] clock) := by rw [hr]; exact heap_alloc_new W1 _
  have Hr := Lib.hid hr
  have hI0 : Fk w (W1.alloc (.mapIter (some M) clock #[] clock)) F M G (G + 1) r ps [] clock 0 lim arm dn #[] := ⟨HA1.out.kept ((Kept.refl (fun _ => False) W1).alloc _) (by simp), by rw [leftL_nil]; simp, hr0, HK1.out.alloc _, fun k hk => by
    simp only [foot, List.flatMap_nil, List.mem_cons, List.not_mem_nil, or_false] at hk
    have := Hs1.out
    have := HG.out
    omega⟩
  have HI0 := Lib.hid hI0
  rw [← hr]
  clear hr hrg h0 hr0 hI0
  go_loopw [4, 5] (fun _ _ wr => ∃ (seen : Array Nat) (qs : List PF) (clk : Nat), Hid (Fk w wr F M G (G + 1) r ps qs clock clk lim arm dn seen)) (fun _ _ wr => itLeft ps wr.heap[r]?)
  case atStart => exact ⟨#[], [], 0, HI0⟩
  case round =>
    obtain ⟨seen, qs, clk, hI⟩ := hrel
    have hk := hI.out.kept
    have hit := hI.out.it
    have hFw : FilesAt wr F M ps clock lim arm dn := HF.out.kept hk (by simp)
    have hold : ∀ x ∈ (entriesOf ps).toList, x.born < clock := by
      intro x hx
      simp only [entriesOf] at hx
      obtain ⟨p, hp, rfl⟩ := List.mem_map.1 hx
      exact HF.out.old p hp
    rcases run_next_at (P := Tryd.prog) wr 0 r M clock clock seen (entriesOf ps) clock hit hFw.map hold (Nat.le_refl _) with ⟨hz, hrun⟩ | ⟨e, he, w1, hw1, hrun⟩
    · have hl0 : leftL ps seen = [] := by
        have : (leftOf (entriesOf ps) seen).toList.length = 0 := by simpa using hz
        rw [leftOf_entries] at this
        exact List.map_eq_nil_iff.1 (List.eq_nil_of_length_eq_zero this)
      have hcore := hI.out.core
      rw [hl0, List.map_nil, List.append_nil] at hcore
      have HC := Lib.hid hcore
      clear hold hFw hz hl0 hcore hk hit
      go_wp2
      go_ret
      exact ⟨G, G + 1, qs, clk, rfl, hI.out.at_, HC.out, hI.out.kept, fun k hk => (hI.out.new k hk).1⟩
    · rw [leftOf_entries] at he
      obtain ⟨p, hp, rfl⟩ := List.mem_map.1 he
      have hpp : p ∈ ps := (List.mem_filter.1 hp).1
      have hls := (left_step ps HF.out.borns seen p hp).1
      have hlc := left_core ps HF.out.borns seen p hp
      have hw1h : w1.heap = wr.heap := by rcases hw1 with rfl | rfl <;> rfl
      have hk1 : Kept (fun _ => False) wr w1 := by rcases hw1 with rfl | rfl; exact Kept.refl _ _; exact (Kept.refl _ _).drew
      obtain ⟨W2, hW2⟩ : ∃ W2, W2 = w1.putObj r (.mapIter (some M) clock (seen.push p.born) clock) := ⟨_, rfl⟩
      have hrlt : r < w1.heap.size := by rw [hw1h]; exact (Array.getElem?_eq_some_iff.1 hit).1
      have hit2 : W2.heap[r]? = some (.mapIter (some M) clock (seen.push p.born) clock) := by rw [hW2]; exact World.putObj_heap_same hrlt
      have hk2 : Kept (fun k => k = r) w1 W2 := by rw [hW2]; exact putObj_kept _ _ _
      have hwr : w.heap.size ≤ r := by have := Hr.out; have := HK1.out.size; omega
      have hkw : Kept (fun _ => False) w W2 := (hk.trans' hk1).trans hk2 (fun i hi e => by omega)
      have hF2 : FilesAt W2 F M ps clock lim arm dn := HF.out.kept hkw (by simp)
      have hQ2 : FilesAt W2 G (G + 1) qs clk lim arm dn := (hI.out.at_.kept hk1 (by simp)).kept hk2 fun k hkf e => (hI.out.new k hkf).2 e
      have hrun' : (Instr.next (.pointer (some ⟨r, 0, none⟩)) false 0).run Tryd.prog wr = .ok (.tuple #[.bool true, p.entry.key, p.entry.val]) W2 := by rw [hW2]; exact hrun
      have hent : (Instr.entry (.pointer (some ⟨r, 0, none⟩))).run Tryd.prog W2 = .ok (.tuple #[p.entry.key, p.entry.val]) W2 :=
        run_entry_at (P := Tryd.prog) W2 r M clock seen (entriesOf ps) clock p.entry hit2 hF2.map (by simp only [entriesOf]; exact List.mem_map.2 ⟨p, hpp, rfl⟩) (by simp only [entriesOf, List.map_map]; exact HF.out.borns)
      obtain ⟨A, c, hv, hlen, hbs, hA0, _⟩ := Bs.of_own (hF2.at_ p hpp).own
      have c0 := (hF2.at_ p hpp).c0
      rw [hv] at c0
      have c1 := (hF2.at_ p hpp).c1
      have cg := FB.c0 (show FB W2 G (G + 1) lim arm dn from hQ2.fb)
      have hps := (hF2.at_ p hpp).safe
      have hpl := (hF2.at_ p hpp).len
      have hno : ∀ q ∈ qs, q.name ≠ p.name := fun q hq e => by
        have hnd : ((qs.map PF.core ++ (leftL ps seen).map PF.core).map Prod.fst).Nodup := by
          refine ((hI.out.core.map Prod.fst).nodup_iff).2 ?_
          have : (ps.map PF.core).map Prod.fst = ps.map PF.name := by rw [List.map_map]; rfl
          rw [this]; exact HF.out.names
        rw [List.map_append, List.nodup_append] at hnd
        exact hnd.2.2 _ (List.mem_map_of_mem (List.mem_map_of_mem hq)) _ (List.mem_map_of_mem (List.mem_map_of_mem hp)) e
      have HBs := Lib.hid hbs
      have HA0 := Lib.hid hA0
      have HNo := Lib.hid hno
      have HQ2 := Lib.hid hQ2
      have HKw := Lib.hid hkw
      have HLs := Lib.hid hls
      have HLc := Lib.hid hlc
      have HIt2 := Lib.hid hit2
      have Hps := Lib.hid hps
      have Hpl := Lib.hid hpl
      have HWr := Lib.hid hwr
      have HKr2 : Hid (Kept (fun k => k = r) wr W2) := Lib.hid ((hk1.mono fun _ _ h => h.elim).trans' hk2)
      have HC0 : Hid (∀ W, Kept (fun _ => False) W2 W → W.cell? ⟨G, 0, none⟩ = some (.map (some (G + 1))) ∧ W.cell? ⟨p.blk, 0, none⟩ = some (.slice A p.b.length c) ∧ W.cell? ⟨p.blk, 1, none⟩ = some (.int .i64 (p.safe : Nat))) := Lib.hid fun W hW => ⟨hW.cell cg (by simp), hW.cell c0 (by simp), hW.cell c1 (by simp)⟩
      simp only [PF.entry] at hrun' hent
      clear hold hFw hrun hw1 hw1h hk1 hW2 hrlt hit2 hk2 hkw hF2 hv hlen he hp hbs hA0 hno hQ2 hls hlc hps hpl hwr hk hit
      go_upto_region 8 with fail
      have hpb : p.blk < G := by have := HF.out.lt p.blk (mem_foot (p := p) hpp (by simp [PF.blocks])); have := HG.out; omega
      have hpb1 : ¬ p.blk = G + 1 := by omega
      have Hpb := Lib.hid hpb
      go_region_held3 (fun W => W.cell? ⟨G, 0, none⟩ = some (.map (some (G + 1))) ∧ W.cell? ⟨p.blk, 0, none⟩ = some (.slice A p.b.length c) ∧ W.cell? ⟨p.blk, 1, none⟩ = some (.int .i64 (p.safe : Nat))) (first | exact ⟨by assumption, by assumption, by assumption⟩ | simp [*]) (first
        | (go_at_call 50; refine (clone_any _ A p.b.length c p.b rfl (by have := Hpl.out; omega) (HBs.out.kept ((Kept.refl (fun _ => False) W2).drew) (by simp)) HA0.out).mono ?_; rintro e w4 ⟨v4, rfl, hown, hk4⟩; obtain ⟨A4, c4, rfl⟩ := own_slice hown; have HK4 := Lib.hid (((Kept.refl (fun _ => False) W2).drew).trans' hk4); obtain ⟨d0, d1, d2⟩ := HC0.out _ HK4.out; have hbu : (Instr.build 88 #[(0, .slice A4 p.b.length c4), (1, .int .i64 (p.safe : Nat))]).run Tryd.prog w4 = .ok (.agg #[.slice A4 p.b.length c4, .int .i64 (p.safe : Nat)]) w4 := (by kernel_rfl); obtain ⟨W6, hW6⟩ : ∃ W6, W6 = (w4.alloc (.cells #[.slice A4 p.b.length c4, .int .i64 (p.safe : Nat)] 88)).putObj (G + 1) (.map ((entriesOf qs).push { key := .string p.name, val := .pointer (some ⟨w4.heap.size, 0, none⟩), born := clk }) (clk + 1)) := ⟨_, rfl⟩; obtain ⟨hup, hIns, hk6, hft⟩ := insert_gen (base := W2.heap.size) (HQ2.out.kept HK4.out (by simp)) HNo.out hown HQ2.out.lt Hps.out Hpl.out rfl rfl hW6; have HIns := Lib.hid hIns; have HK6 := Lib.hid hk6; have HFt := Lib.hid hft; have q0 := hk6.cell d0 (by simp); have q1 := hk6.cell d1 hpb1; have q2 := hk6.cell d2 hpb1; have hl1 : G < w4.heap.size := World.block_lt_of_cell? w4 ⟨G, 0, none⟩ d0; have hl2 : p.blk < w4.heap.size := World.block_lt_of_cell? w4 ⟨p.blk, 0, none⟩ d1; have Hl1 := Lib.hid hl1; have ha := (Kept.refl (fun _ => False) w4).alloc (.cells #[.slice A4 p.b.length c4, .int .i64 (p.safe : Nat)] 88); have g0 := ha.cell d0 (by simp); have g1 := ha.cell d1 (by simp); have g2 := ha.cell d2 (by simp); clear ha hIns hk6 hft hW6 hown hk4))
      all_goals go_wp2
      all_goals
        go_roundw
        case rel =>
          refine ⟨seen.push p.born, _, _, Lib.hid ⟨HIns.out, ?_, ?_, ?_, ?_⟩⟩
          · rw [List.map_append]
            refine List.Perm.trans ?_ hI.out.core
            rw [List.append_assoc]
            exact List.Perm.append_left _ (HLc.out.symm)
          · exact HK6.out.heap (HK4.out.heap HIt2.out (by simp)) (fun e => by have := Hr.out; have := Hs1.out; omega)
          · exact (HKw.out.trans' HK4.out).trans HK6.out fun i hi e => by have := HG.out; omega
          · intro k hk
            have hs4 := HK4.out.size
            have hs2 := HKw.out.size
            have hrw : r < W2.heap.size := (Array.getElem?_eq_some_iff.1 HIt2.out).1
            rcases HFt.out k hk with h | h | h
            · exact hI.out.new k h
            · omega
            · omega
        case measure =>
          rw [HK6.out.heap (HK4.out.heap HIt2.out (by simp)) (fun e => by have := Hr.out; have := Hs1.out; omega), hI.out.it]
          simp only [itLeft]
          have := HLs.out
          omega
end Go.Proofs.YthkncfdgfbnchaaDoor
end

/-! FilesPlay, the plain law: the files, in the map's order, and the reference's, by rising names, are alike. -/
section
set_option linter.unusedVariables false
set_option linter.unusedSimpArgs false
namespace Go.Proofs.YthkncfdgfbnchaaDoor
open Go.RowKit Go.Sort

def RV.core (r : RV) : ByteArray × List UInt8 × Nat := (r.name, r.b, r.safe)
def coreKey (c : ByteArray × List UInt8 × Nat) : List UInt8 := c.1.data.toList
structure Alike (ps : List PF) (rs : List RV) : Prop where
  perm : (ps.map PF.core).Perm (rs.map RV.core)
  sorted : SortedR rs
theorem sum_perm {a b : List Nat} (h : a.Perm b) : a.sum = b.sum := by
  induction h with
  | nil => rfl
  | cons x _ ih => simp [ih]
  | swap x y l => simp; omega
  | trans _ _ h1 h2 => exact h1.trans h2
section
variable {ps qs l1 l2 : List PF} {rs r1 r2 : List RV} {p q : PF} {r x : RV}
theorem Alike.used (h : Alike ps rs) : usedL ps = usedR rs := by
  have := sum_perm (h.perm.map fun c => c.2.1.length)
  rw [List.map_map, List.map_map] at this
  exact this
theorem Alike.len (h : Alike ps rs) : ps.length = rs.length := by simpa using h.perm.length_eq
theorem Alike.keys (h : Alike ps rs) : sortN ps = rs.map RV.key := by
  have hp : (namesL ps).Perm (rs.map RV.key) := by
    have := h.perm.map coreKey
    rw [List.map_map, List.map_map] at this
    exact this
  unfold sortN
  rw [mergeSort_of_perm hp]
  refine List.mergeSort_of_pairwise (h.sorted.imp fun {a b} hab => ?_)
  exact decide_eq_true (List.le_of_lt hab)
theorem Alike.none_ (h : Alike ps rs) {s : ByteArray} (hno : ∀ q ∈ ps, q.name ≠ s) : ∀ q ∈ rs, q.name ≠ s := by
  intro q hq e
  have : q.core ∈ ps.map PF.core := h.perm.mem_iff.2 (List.mem_map_of_mem hq)
  obtain ⟨p, hp, he⟩ := List.mem_map.1 this
  exact hno p hp (by have := congrArg Prod.fst he; exact this.trans e)
theorem Alike.split (h : Alike (l1 ++ p :: l2) rs) : ∃ r1 r r2, rs = r1 ++ r :: r2 ∧ r.core = p.core := by
  have : p.core ∈ rs.map RV.core := h.perm.mem_iff.1 (List.mem_map_of_mem (by simp))
  obtain ⟨r, hr, he⟩ := List.mem_map.1 this
  obtain ⟨r1, r2, rfl⟩ := List.append_of_mem hr
  exact ⟨r1, r, r2, rfl, he⟩
theorem perm_mid (h : ((l1 ++ p :: l2).map PF.core).Perm ((r1 ++ r :: r2).map RV.core)) (e : r.core = p.core) : ((l1 ++ l2).map PF.core).Perm ((r1 ++ r2).map RV.core) := by
  simp only [List.map_append, List.map_cons] at h ⊢
  rw [e] at h
  have h1 : (PF.core p :: (l1.map PF.core ++ l2.map PF.core)).Perm (PF.core p :: (r1.map RV.core ++ r2.map RV.core)) := (List.perm_middle.symm.trans h).trans List.perm_middle
  exact h1.cons_inv
theorem sorted_upd (h : SortedR (r1 ++ r :: r2)) (e : x.name = r.name) : SortedR (r1 ++ x :: r2) := by
  unfold SortedR at h ⊢
  simp only [List.map_append, List.map_cons] at h ⊢
  rwa [show x.key = r.key by unfold RV.key; rw [e]]
theorem Alike.upd (h : Alike (l1 ++ p :: l2) (r1 ++ r :: r2)) (e : r.core = p.core) (e2 : x.core = q.core) (en : x.name = r.name) : Alike (l1 ++ q :: l2) (r1 ++ x :: r2) := by
  refine ⟨?_, sorted_upd h.sorted en⟩
  have := perm_mid h.perm e
  simp only [List.map_append, List.map_cons] at this ⊢
  rw [e2]
  exact (List.perm_middle.trans (this.cons _)).trans List.perm_middle.symm
theorem Alike.gone (h : Alike (l1 ++ p :: l2) (r1 ++ r :: r2)) (e : r.core = p.core) : Alike (l1 ++ l2) (r1 ++ r2) := ⟨perm_mid h.perm e, h.sorted.sub⟩
theorem insR_perm (rs : List RV) (x : RV) : ((insR rs x).map RV.core).Perm (x.core :: rs.map RV.core) := by
  unfold insR
  rw [List.map_append, List.map_cons]
  refine List.perm_middle.trans (List.Perm.cons _ ?_)
  rw [← List.map_append, List.take_append_drop]
theorem Alike.ins (h : Alike ps rs) (hno : ∀ r ∈ rs, r.name ≠ x.name) (e : x.core = q.core) : Alike (ps ++ [q]) (insR rs x) := by
  refine ⟨?_, sorted_ins h.sorted hno⟩
  rw [List.map_append, List.map_singleton]
  exact (List.perm_append_singleton _ _).trans (((h.perm.cons _).trans (by rw [e])).trans (insR_perm rs x).symm)
theorem Alike.mid (h : Alike (l1 ++ l2) rs) (hno : ∀ r ∈ rs, r.name ≠ x.name) (e : x.core = q.core) : Alike (l1 ++ q :: l2) (insR rs x) := by
  refine ⟨?_, sorted_ins h.sorted hno⟩
  have := h.perm
  simp only [List.map_append, List.map_cons] at this ⊢
  exact List.perm_middle.trans (((this.cons _).trans (by rw [e])).trans (insR_perm rs x).symm)
theorem Alike.perm_l (h : Alike ps rs) (e : (qs.map PF.core).Perm (ps.map PF.core)) : Alike qs rs := ⟨e.trans h.perm, h.sorted⟩
def rank (ks : List (List UInt8)) (y : List UInt8) : List (List UInt8) := ks.takeWhile fun z => decide (z < y)
/-- Both have fallen. -/
theorem Alike.fall {n : Nat} {zs : List Int} {rs' : List RV} (h : Alike ps rs) (hn : (ps.map PF.name).Nodup) (hp : All2 (FallsX n zs ps (sortN ps)) ps qs) (hr : FallK n zs rs rs' rs.length) : Alike qs rs' := by
  have hk := h.keys
  have hsr : SortedR rs' := by
    have : rs'.map RV.key = rs.map RV.key := by
      apply List.ext_getElem?
      intro j
      rw [List.getElem?_map, List.getElem?_map]
      by_cases hj : j < rs.length
      · have h1 := List.getElem?_eq_getElem hj
        have h2 := List.getElem?_eq_getElem (show j < rs'.length by rw [hr.len]; exact hj)
        rw [h1, h2]
        have := (hr.done j _ _ hj h1 h2).name
        simp [RV.key, this]
      · rw [List.getElem?_eq_none (show rs'.length ≤ j by rw [hr.len]; omega), List.getElem?_eq_none (show rs.length ≤ j by omega)]; try rfl
    unfold SortedR
    rw [this]
    exact h.sorted
  refine ⟨?_, hsr⟩
  -- a file's waiting rank is the same on both sides
  have hw : ∀ r ∈ rs, waits ps r.key = decide (r.safe ≠ r.b.length) := by
    intro r hr
    have : r.core ∈ ps.map PF.core := h.perm.mem_iff.2 (List.mem_map_of_mem hr)
    obtain ⟨p, hp, he⟩ := List.mem_map.1 this
    obtain ⟨i, hi⟩ := List.getElem?_of_mem hp
    have := waits_at hn hi
    have e1 : p.name = r.name := congrArg Prod.fst he
    have e2 : p.b = r.b := congrArg (fun c => c.2.1) he
    have e3 : p.safe = r.safe := congrArg (fun c => c.2.2) he
    rw [e1, e2, e3] at this
    exact this
  have hc : ∀ k, cnt ps ((rs.take k).map RV.key) = cntR rs k := by
    intro k
    unfold cnt cntR
    rw [List.filter_map, List.length_map]
    congr 1
    apply List.filter_congr
    intro r hr
    exact hw r (List.mem_of_mem_take hr)
  -- the fallen one of each
  let f : ByteArray × List UInt8 × Nat → ByteArray × List UInt8 × Nat := fun c => 
    let i := cnt ps (rank (sortN ps) (coreKey c))
    (c.1, c.2.1.take (c.2.2 + keepN n zs i c.2.2 c.2.1.length), c.2.2 + keepN n zs i c.2.2 c.2.1.length)
  have hf : ∀ c i, cnt ps (rank (sortN ps) (coreKey c)) = i → f c = (c.1, c.2.1.take (c.2.2 + keepN n zs i c.2.2 c.2.1.length), c.2.2 + keepN n zs i c.2.2 c.2.1.length) := by intro c i e; subst e; rfl
  have hq : qs.map PF.core = (ps.map PF.core).map f := by
    apply List.ext_getElem?
    intro j
    rw [List.getElem?_map, List.map_map, List.getElem?_map]
    by_cases hj : j < ps.length
    · have h1 := List.getElem?_eq_getElem hj
      have h2 := List.getElem?_eq_getElem (show j < qs.length by have := hp.1; omega)
      rw [h1, h2]
      have hm : ps[j].name.data.toList ∈ sortN ps := (sortN_perm ps).mem_iff.2 (List.mem_map.2 ⟨_, List.getElem_mem hj, rfl⟩)
      obtain ⟨a, b, hab⟩ := List.append_of_mem hm
      have hF := (hp.2 j _ _ h1 h2).2 a b hab
      have hta : rank (sortN ps) ps[j].name.data.toList = a := by
        unfold rank
        have hs : (sortN ps).Pairwise (· < ·) := by rw [hk]; exact h.sorted
        rw [hab] at hs ⊢
        rw [List.pairwise_append] at hs
        rw [List.takeWhile_append_of_pos (fun y hy => decide_eq_true (hs.2.2 y hy _ (by simp))), List.takeWhile_cons, if_neg (by simp [List.lt_irrefl]), List.append_nil]
      rw [Option.map_some, Option.map_some, Function.comp, hf (PF.core ps[j]) (cnt ps a) (by show cnt ps (rank (sortN ps) ps[j].name.data.toList) = _; rw [hta])]
      simp only [PF.core, Option.some.injEq, Prod.mk.injEq]
      exact ⟨hF.name, hF.b, hF.safe⟩
    · rw [List.getElem?_eq_none (show qs.length ≤ j by have := hp.1; omega), List.getElem?_eq_none (show ps.length ≤ j by omega)]; rfl
  have hr' : rs'.map RV.core = (rs.map RV.core).map f := by
    apply List.ext_getElem?
    intro j
    rw [List.getElem?_map, List.map_map, List.getElem?_map]
    by_cases hj : j < rs.length
    · have h1 := List.getElem?_eq_getElem hj
      have h2 := List.getElem?_eq_getElem (show j < rs'.length by rw [hr.len]; exact hj)
      rw [h1, h2]
      have hF := hr.done j _ _ hj h1 h2
      have hta : rank (sortN ps) rs[j].key = (rs.take j).map RV.key := by
        unfold rank
        rw [hk]
        have hsp : rs.map RV.key = (rs.take j).map RV.key ++ rs[j].key :: (rs.drop (j + 1)).map RV.key := by
          rw [← List.map_cons, ← List.map_append, ← List.drop_eq_getElem_cons hj, List.take_append_drop]
        have hs : (rs.map RV.key).Pairwise (· < ·) := h.sorted
        rw [hsp] at hs ⊢
        rw [List.pairwise_append] at hs
        rw [List.takeWhile_append_of_pos (fun y hy => decide_eq_true (hs.2.2 y hy _ (by simp))), List.takeWhile_cons, if_neg (by simp [List.lt_irrefl]), List.append_nil]
      rw [Option.map_some, Option.map_some, Function.comp, hf (RV.core rs[j]) (cntR rs j) (by show cnt ps (rank (sortN ps) rs[j].key) = _; rw [hta, hc j])]
      simp only [RV.core, Option.some.injEq, Prod.mk.injEq]
      exact ⟨hF.name, hF.b, hF.safe⟩
    · rw [List.getElem?_eq_none (show rs'.length ≤ j by rw [hr.len]; omega), List.getElem?_eq_none (show rs.length ≤ j by omega)]; rfl
  rw [hq, hr']
  exact h.perm.map f
end
end Go.Proofs.YthkncfdgfbnchaaDoor
end
