/- segment's Without. -/
import Derived.Test.YtdbpkiddiehliaaGreatMapI
namespace Go.Proofs.YtdbpkiddiehliaaGreat
open Go Go.RowKit Go.Sort
set_option maxHeartbeats 1000000 in
set_option maxRecDepth 100000 in
theorem index_empty (a : Option Addr) (c : Nat) (fv : Value) (w : World) : Calls Tryz.prog 43 #[.slice a 0 c, fv] w fun e w' => e = .returned (.int .i64 (-1)) ∧ w = w' := by
  go_enter Tryz.func43, Tryz.ntmps43
  go_wp2
  go_loopg [8] 1 (fun kx s8 wr => s8 = .int .i64 0 ∧ w = wr)
  case atStart => exact ⟨rfl, rfl⟩
  case round =>
    obtain ⟨rfl, rfl⟩ := hrel
    go_wp2
    go_ret
    exact ⟨rfl, rfl⟩
set_option maxHeartbeats 1000000 in
set_option maxRecDepth 100000 in
theorem delete_empty (a : Option Addr) (c : Nat) (fv : Value) (w : World) : Calls Tryz.prog 27 #[.slice a 0 c, fv] w fun e w' => e = .returned (.slice a 0 c) ∧ w = w' := by
  go_enter Tryz.func27, Tryz.ntmps27
  go_wp2_with (go_at_call 43; refine (index_empty _ _ _ _).mono ?_; rintro e w1 ⟨rfl, rfl⟩)
  go_ret
  exact ⟨rfl, rfl⟩
def DelOwn (base g cap : Nat) (l : List Ent) (w1 : World) (e : Ending) (w2 : World) : Prop :=
  ∃ m, m = l.length ∧ e = .returned (.slice (some ⟨g, 0, none⟩) m cap) ∧ OwnE w2 base (.slice (some ⟨g, 0, none⟩) m cap) l ∧ Fr (· = g) w1 w2
theorem ut_map : Tryz.prog.underlying 66 = some (TypeDesc.map 3 4) := Tryz.underlying66
theorem delete_own {w1 : World} {base g cap n mb gb t : Nat} {l : List Ent} {ps : List Int} (hn : l.length = n) (ho : OwnE w1 base (.slice (some ⟨g, 0, none⟩) n cap) l) (hl : l ≠ []) (hlen : n ≤ 1000000000)
    (hM : MapI w1 mb ps) (hgc : w1.heap[gb]? = some (.cells #[.map (some mb)] t (0, 0))) (hgm : g ≠ mb) (hgg : g ≠ gb) :
    Calls Tryz.prog 27 #[.slice (some ⟨g, 0, none⟩) n cap, .func (.func 29) #[] #[.pointer (some ⟨gb, 0, none⟩)]] w1 (DelOwn base g cap (l.filter (keepF ps)) w1) := by
  subst hn
  obtain ⟨R, cur, hg, hz, hb, hf⟩ := Own.holdsK ho hl
  have := deleteE_ok sg sd 29 #[.pointer (some ⟨gb, 0, none⟩)] g 0 cap l.toArray w1 (fun e => inI ps e.pk) (enters_of Tryz.func29 rfl rfl) (fun W hW x => by
    have h1 := hW.heap hgc (fun e => hgg e.symm)
    exact withoutF_ok sg sd ut_map W x (hM.fr hW (fun e => hgm e.symm)) (cell_of_heap h1 0) (lt_of_heap h1)) R (by simp; omega) (by simp; exact hf.1) hf.2.2
  rw [List.size_toArray] at this
  refine this.mono ?_
  rintro e w2 ⟨m, dk, rfl, hm, hds, htk, hS⟩
  have hm' : m ≤ l.length := by simpa using hm
  obtain ⟨h1, h2⟩ := SWK.own hS R hds (by simp) hm' hg hz hb hf
  rw [htk] at h1
  have hml : m = (l.filter (keepF ps)).length := by
    have := congrArg List.length htk
    rw [List.length_take, Array.length_toList, hds] at this
    simp only [List.size_toArray] at this hm
    rw [Nat.min_eq_left hm] at this
    exact this
  refine ⟨m, hml, rfl, ?_, h2⟩
  unfold OwnE
  rw [← hml]
  exact h1
set_option maxHeartbeats 4000000 in
set_option maxRecDepth 100000 in
theorem segWithout_ok {S S' : Nat → Prop} (w : World) (v v' : Value) (l : List Ent) (ps : List Int) (hv : Es S w v l) (hp : Is S' w v' ps) (hlen : l.length ≤ 1000000) : Calls Tryz.prog 13 #[v, v'] w (RetE' w (l.filter (keepF ps))) := by
  have HV := hid hv
  obtain ⟨a, c, rfl, hl1, hl2, hl3, _, _⟩ := hv.cases
  obtain ⟨a', c', rfl, hp1, hp2, hp3, h4'⟩ := hp.cases
  unfold maxLen at hl3 hp3
  have H4' := hid h4'
  clear h4' hv hp
  have hmm := @run_makeMap Tryz.prog
  go_enter Tryz.func13, Tryz.ntmps13
  go_wp2
  have hM0 : MapI ((w.alloc (.map #[] 0)).alloc (.cells #[.map (some w.heap.size)] 66 (0, 0))) w.heap.size [] := by
    refine ⟨#[], 0, ?_, fun e he => by simp at he, fun z hz => by cases hz⟩
    rw [heap_alloc_old _ _ (by simp)]; exact heap_alloc_new w _
  have hG0 : ((w.alloc (.map #[] 0)).alloc (.cells #[.map (some w.heap.size)] 66 (0, 0))).heap[w.heap.size + 1]? = some (.cells #[.map (some w.heap.size)] 66 (0, 0)) := by
    have := heap_alloc_new (w.alloc (.map #[] 0)) (.cells #[.map (some w.heap.size)] 66 (0, 0))
    simpa using this
  have HM0 := hid hM0
  have HG0 := hid hG0
  have HB0 := hid (((Below.refl w.heap.size w).alloc (Nat.le_refl _) (.map #[] 0)).alloc (by simp) (.cells #[.map (some w.heap.size)] 66 (0, 0)))
  clear hM0 hG0
  generalize (w.alloc (.map #[] 0)).alloc (.cells #[.map (some w.heap.size)] 66 (0, 0)) = wb at *
  go_loopg [11] ps.length (fun kx s11 wr => ∃ i : Nat, s11 = .int .i64 i ∧ i ≤ ps.length ∧ ps.length - i ≤ kx ∧ Hid (MapI wr w.heap.size (ps.take i)) ∧ Hid (wr.heap[w.heap.size + 1]? = some (.cells #[.map (some w.heap.size)] 66 (0, 0))) ∧ Hid (Below w.heap.size w wr))
  case atStart => exact ⟨0, rfl, Nat.zero_le _, Nat.le_refl _, HM0, HG0, HB0⟩
  case round =>
    clear HM0 HG0 HB0
    obtain ⟨i, rfl, hi, hkx, HM, HG, HB⟩ := hrel
    by_cases hlt : i < ps.length
    · obtain ⟨pb, po, rfl, hpb, _, hpc⟩ := H4'.out.resolve_left (fun e => by subst e; simp at hlt)
      obtain ⟨z, hz⟩ : ∃ z, ps[i]? = some z := ⟨ps[i], by simp [hlt]⟩
      have kz := (HB.out.cell (p := ⟨pb, po + i, none⟩) hpb).trans (hpc i z hz)
      have kg := cell_of_heap HG.out 0
      have HT := hid (show ps.take i ++ [z] = ps.take (i + 1) by rw [List.take_add_one, hz]; rfl)
      simp at kg
      clear hpc hz
      go_wp2_with (at_mapUpdate; refine wpl_mapUpdateI rfl rfl (fun w => run_underlying ut_map w) (fun w => run_underlying Tryz.underlying3 w) rfl rfl rfl HM.out ?_; intro w2 hm2 hf2; have HM2 := hid (And.intro hm2 hf2); clear hm2 hf2)
      go_roundg (ps.length - (i + 1))
      case measure => omega
      case rel =>
        obtain ⟨hm2, hf2⟩ := HM2.out
        rw [HT.out] at hm2
        exact ⟨i + 1, by go_num, hlt, Nat.le_refl _, hid hm2, hid (hf2.heap HG.out (by omega)), hid (Below.fr HB.out hf2 (fun q hq e => by omega))⟩
    · obtain rfl : i = ps.length := by omega
      have HM' := hid (show MapI wr w.heap.size ps by have := HM.out; rwa [List.take_of_length_le (Nat.le_refl _)] at this)
      have HC := hid (cloneE_ok (S := S) (.slice a l.length c) l.length (l.flatMap entC) wr (HV.out.shift (Fr.of_below HB.out : Fr (fun _ => False) _ _) (fun _ _ h => h.elim) (fun _ _ h => h)) (flatE_one l) (by omega))
      by_cases hl : l = []
      · subst hl
        clear HM HV
        go_wp2_with (first | (go_at_call 28; refine HC.out.mono ?_; rintro e w1 ⟨v1, rfl, ho1, hb1⟩; obtain ⟨a1, c1, rfl, _⟩ := ho1.len; have HO := hid (And.intro ho1 hb1); clear ho1 hb1; simp only [List.length_nil]) | (go_at_call 27; refine (delete_empty _ _ _ _).mono ?_; rintro e w2 ⟨rfl, rfl⟩))
        go_ret
        exact ⟨_, _, rfl, Own.mono HO.out.1 HB.out.size, HB.out.trans (HO.out.2.mono HB.out.size)⟩
      · have HL := hid hl
        clear hl HM HV
        have hzr : w.heap.size + 1 < wr.heap.size := lt_of_heap HG.out
        go_wp2_with (first | (go_at_call 28; refine HC.out.mono ?_; rintro e w1 ⟨v1, rfl, ho1, hb1⟩; obtain ⟨g1, c1, rfl, hg1⟩ := OwnE.open (l := l) ho1 HL.out; have HO := hid (And.intro ho1 hb1); clear ho1 hb1) | (go_at_call 27; refine (delete_own rfl HO.out.1 HL.out (by omega) (HM'.out.fr (Fr.of_below HO.out.2 : Fr (fun _ => False) _ _) id) ((Fr.of_below HO.out.2 : Fr (fun _ => False) _ _).heap HG.out id) (by omega) (by omega)).mono ?_; rintro e w2 ⟨m, hm, rfl, ho2, hf2⟩; subst hm; have H2 := hid (And.intro ho2 hf2); clear ho2 hf2))
        go_ret
        exact ⟨_, _, rfl, Own.mono H2.out.1 HB.out.size, Below.fr (HB.out.trans (HO.out.2.mono HB.out.size)) H2.out.2 (fun q hq e => by omega)⟩
end Go.Proofs.YtdbpkiddiehliaaGreat
