/- segment's Sort. -/
import Derived.Test.YtpomfegcifpfkaaCompactE
namespace Go.Proofs.Ytpomfegcifpfkaa
open Go Go.RowKit Go.Sort
/-- A slice of entries that a call has made. -/
def OwnE (w : World) (base : Nat) (v : Value) (l : List Ent) : Prop := Own w base 50 35 v l.length (l.flatMap entC)
theorem flatE_one (l : List Ent) : ∀ u ∈ l.flatMap entC, u.oneCell' = true := by
  intro u hu
  obtain ⟨e, _, h⟩ := List.mem_flatMap.1 hu
  exact entC_one e u h
theorem OwnE.es {w : World} {base : Nat} {v : Value} {l : List Ent} (h : OwnE w base v l) {S : Nat → Prop} (hs : ∀ k, base ≤ k → k < w.heap.size → ¬ S k) : Es S w v l := Own.row h hs
theorem et_cloneE : ET Try.prog 30 50 35 56 (.agg (entC default).toArray) := ⟨Try.underlying30, by kernel_rfl, rfl, by decide, by decide⟩
set_option maxRecDepth 100000 in
set_option maxHeartbeats 400000 in
/-- slices.Clone (cloneE): the same cells, in new memory. -/
theorem cloneE_ok {S : Nat → Prop} (v : Value) (n : Nat) (cs : List Value) (w : World) (h : Row S w v n 35 cs) (h1 : ∀ u ∈ cs, u.oneCell' = true) (hlen : n * 56 ≤ 140737488355328) :
    Calls Try.prog 36 #[v] w fun e w' => ∃ v', e = .returned v' ∧ Own w' w.heap.size 50 35 v' n cs ∧ Below w.heap.size w w' := by
  have HR := hid h
  obtain ⟨h0, a, c, rfl, ⟨hc, _, hm⟩, hn, h4⟩ := h
  have hq := fun W => eql_slice_nil (P := Try.prog) W a n c Try.underlying30
  cases a with
  | none =>
    obtain rfl : n = 0 := by
      rcases h4 with h | ⟨b, off, h, _⟩
      · exact h
      · cases h
    obtain rfl : c = 0 := hn rfl
    obtain rfl : cs = [] := List.eq_nil_of_length_eq_zero (by simpa using h0)
    clear h4 hn hq h0 h1
    have hq0 := fun W => eql_slice_nil (P := Try.prog) W none 0 0 Try.underlying30
    go_enter Try.func36, Try.ntmps36
    go_wp2
    go_ret
    exact ⟨_, rfl, Own.nil _ _ _ _, Below.refl _ _⟩
  | some a =>
    clear h4 hn h0
    have H1 := hid h1
    clear h1
    go_enter Try.func36, Try.ntmps36
    go_wp2_with (at_builtin; refine wpl_append (S := S) (base := w.heap.size) (n := 0) (xs := []) rfl rfl et_cloneE rfl (own_empty _ _ _ _ _) rfl (HR.out.fr ((Fr.refl (fun _ => False) w).alloc _) (fun _ _ h => h.elim)) H1.out (by omega) (by simp) ?_; intro v' w1 ho hf _)
    simp only [Nat.zero_add, List.nil_append] at ho
    have hb : Below w.heap.size w w1 := Below.fr ((Below.refl _ _).alloc (Nat.le_refl _) _) hf (fun i hi hm => by
      obtain ⟨off, n, c, hv, hc⟩ := hm
      injection hv with e1 e2 e3
      exact hc e3.symm)
    go_wp2
    go_ret
    exact ⟨_, rfl, ho, hb⟩
theorem ltOf_cmpE : ltOf cmpE = ltE := funext fun _ => funext fun _ => cmpL_neg _ _
/-- A slice of entries is answered: new memory. -/
def RetE' (w : World) (l : List Ent) (r : Ending) (w' : World) : Prop := ∃ a c, r = .returned (.slice a l.length c) ∧ OwnE w' w.heap.size (.slice a l.length c) l ∧ Below w.heap.size w w'
set_option maxHeartbeats 1000000 in
set_option maxRecDepth 100000 in
theorem stable_empty (a : Option Addr) (c : Nat) (fv : Value) (w : World) : Calls Try.prog 55 #[.slice a 0 c, .int .i64 0, fv] w fun e w' => e = .returned (.tuple #[]) ∧ w = w' := by
  have hins : ∀ W, Calls Try.prog 63 #[.slice a 0 c, .int .i64 0, .int .i64 0, fv] W fun e w' => e = .returned (.tuple #[]) ∧ W = w' := fun W => by
    go_enter Try.func63, Try.ntmps63
    go_wp2
    go_loopg [8] 1 (fun kx s8 wr => s8 = .int .i64 1 ∧ W = wr)
    case atStart => exact ⟨rfl, rfl⟩
    case round =>
      obtain ⟨rfl, rfl⟩ := hrel
      go_wp2
      go_end0
      exact ⟨rfl, rfl⟩
  go_enter Try.func55, Try.ntmps55
  go_wp2
  go_loopg [7, 8] 1 (fun kx s7 s8 wr => s7 = .int .i64 0 ∧ s8 = .int .i64 20 ∧ w = wr)
  case atStart => exact ⟨rfl, rfl, rfl⟩
  case round =>
    obtain ⟨rfl, rfl, rfl⟩ := hrel
    go_wp2_with (go_at_call 63; refine (hins _).mono ?_; rintro e w1 ⟨rfl, rfl⟩)
    go_loopg [6] 1 (fun kx s6 wr => s6 = .int .i64 20 ∧ w = wr)
    case atStart => exact ⟨rfl, rfl⟩
    case round =>
      obtain ⟨rfl, rfl⟩ := hrel
      go_wp2
      go_end0
      exact ⟨rfl, rfl⟩
set_option maxHeartbeats 1000000 in
set_option maxRecDepth 100000 in
theorem sortSt_empty (a : Option Addr) (c : Nat) (fv : Value) (w : World) : Calls Try.prog 37 #[.slice a 0 c, fv] w fun e w' => e = .returned (.tuple #[]) ∧ w = w' := by
  go_enter Try.func37, Try.ntmps37
  go_wp2_with (go_at_call 55; refine (stable_empty _ _ _ _).mono ?_; rintro e w1 ⟨rfl, rfl⟩)
  go_end0
  exact ⟨rfl, rfl⟩
set_option maxHeartbeats 1000000 in
set_option maxRecDepth 100000 in
theorem compact_empty (a : Option Addr) (c : Nat) (fv : Value) (w : World) : Calls Try.prog 38 #[.slice a 0 c, fv] w fun e w' => e = .returned (.slice a 0 c) ∧ w = w' := by
  go_enter Try.func38, Try.ntmps38
  go_wp2
  go_ret
  exact ⟨rfl, rfl⟩
theorem OwnE.open {w : World} {base : Nat} {v : Value} {l : List Ent} (h : OwnE w base v l) (hl : l ≠ []) : ∃ g cap, v = .slice (some ⟨g, 0, none⟩) l.length cap ∧ base ≤ g := by
  obtain ⟨h0, ⟨hn, _⟩ | ⟨g, cap, cur, rfl, hb, r⟩⟩ := h
  · exact absurd (List.eq_nil_of_length_eq_zero hn) hl
  · exact ⟨g, cap, rfl, hb⟩
def SortOwn (base g cap : Nat) (l : List Ent) (w1 : World) (e : Ending) (w2 : World) : Prop :=
  e = .returned (.tuple #[]) ∧ ∃ d' : List Ent, d'.length = l.length ∧ uniqE d' = sortE l ∧ OwnE w2 base (.slice (some ⟨g, 0, none⟩) l.length cap) d' ∧ Fr (· = g) w1 w2
theorem sortSt_own {w1 : World} {base g cap : Nat} {l : List Ent} (ho : OwnE w1 base (.slice (some ⟨g, 0, none⟩) l.length cap) l) (hl : l ≠ []) (hlen : l.length ≤ 1000000000) :
    Calls Try.prog 37 #[.slice (some ⟨g, 0, none⟩) l.length cap, .func (.func 33) #[] #[]] w1 (SortOwn base g cap l w1) := by
  obtain ⟨R, cur, hg, hz, hb, hf⟩ := Own.holdsK ho hl
  have hC : CmpLays Try.prog 33 #[] entC 35 cmpE g 0 l.toArray.size w1 := fun m os dk _ x y => by
    exact segCompare_ok sc rfl (sortWorldK entC 35 w1 g 0 m dk os) x y
  have := sortStE_ok se entC cmpE 33 #[] g 0 cap l.toArray w1 (enters_of Try.func33 rfl rfl) hC R (by rw [ltOf_cmpE]; exact ltE_swo) (by simp; omega)
  rw [List.size_toArray] at this
  refine this.mono ?_
  rintro e w2 ⟨rfl, d', hM, hS⟩
  rw [ltOf_cmpE] at hM
  have hM' : Mrg ltE 0 l.toArray.size l.toArray d' := by simpa using hM
  have hsz : d'.size = l.length := by have := hM'.size; simpa using this
  obtain ⟨h1, h2⟩ := SWK.own hS R (by simp [hsz]) (by simp) (Nat.le_refl l.length) hg hz hb hf
  rw [List.take_of_length_le (by simp [hsz])] at h1
  refine ⟨rfl, d'.toList, by simp [hsz], by have := uniqE_sort hM'; simpa using this, ?_, h2⟩
  unfold OwnE
  have : d'.toList.length = l.length := by simp [hsz]
  rw [this]; exact h1
def CompOwn (base g cap : Nat) (l : List Ent) (w1 : World) (e : Ending) (w2 : World) : Prop :=
  ∃ m, m = (uniqE l).length ∧ e = .returned (.slice (some ⟨g, 0, none⟩) m cap) ∧ OwnE w2 base (.slice (some ⟨g, 0, none⟩) m cap) (uniqE l) ∧ Fr (· = g) w1 w2
theorem compact_own {w1 : World} {base g cap n : Nat} {l : List Ent} (hn : l.length = n) (ho : OwnE w1 base (.slice (some ⟨g, 0, none⟩) n cap) l) (hl : l ≠ []) (hlen : n ≤ 1000000000) :
    Calls Try.prog 38 #[.slice (some ⟨g, 0, none⟩) n cap, .func (.func 39) #[] #[]] w1 (CompOwn base g cap l w1) := by
  subst hn
  obtain ⟨R, cur, hg, hz, hb, hf⟩ := Own.holdsK ho hl
  have := compactE_ok sg 39 #[] g 0 cap l.toArray w1 (enters_of Try.func39 rfl rfl) (fun W x y => by have := sortEq_ok sc rfl W x y; simpa using this) R (by simp; omega) (by simp; exact hf.1) hf.2.2
  rw [List.size_toArray] at this
  refine this.mono ?_
  rintro e w2 ⟨m, dk, rfl, hm, hds, htk, hS⟩
  have hm' : m ≤ l.length := by simpa using hm
  obtain ⟨h1, h2⟩ := SWK.own hS R hds (by simp) hm' hg hz hb hf
  rw [htk] at h1
  have hml : m = (uniqE l).length := by
    have := congrArg List.length htk
    rw [List.length_take, Array.length_toList, hds] at this
    simp at this; simp at hm; omega
  refine ⟨m, hml, rfl, ?_, h2⟩
  unfold OwnE
  rw [← hml]
  simpa using h1
set_option maxHeartbeats 4000000 in
set_option maxRecDepth 100000 in
theorem segSort_ok {S : Nat → Prop} (w : World) (v : Value) (l : List Ent) (hv : Es S w v l) (hlen : l.length ≤ 1000000000) : Calls Try.prog 15 #[v] w (RetE' w (sortE l)) := by
  have hclone := cloneE_ok v l.length (l.flatMap entC) w hv (flatE_one l) (by omega)
  have HC := hid hclone
  obtain ⟨av, cv, rfl, _⟩ := hv.cases
  clear hclone hv
  by_cases hl : l = []
  · subst hl
    have hs : sortE [] = [] := rfl
    rw [hs]
    clear hs
    go_enter Try.func15, Try.ntmps15
    go_wp2_with (first | (go_at_call 36; refine HC.out.mono ?_; rintro e w1 ⟨v1, rfl, ho1, hb1⟩; obtain ⟨a1, c1, rfl, _⟩ := ho1.len; have HO := hid (And.intro ho1 hb1); clear ho1 hb1; simp only [List.length_nil]) | (go_at_call 37; refine (sortSt_empty _ _ _ _).mono ?_; rintro e w2 ⟨rfl, rfl⟩) | (go_at_call 38; refine (compact_empty _ _ _ _).mono ?_; rintro e w2 ⟨rfl, rfl⟩))
    go_ret
    exact ⟨_, _, rfl, HO.out.1, HO.out.2⟩
  · have hle : (sortE l).length ≤ l.length := sortE_length l
    have H1 := hid hlen
    have HL := hid hl
    clear hl
    go_enter Try.func15, Try.ntmps15
    go_wp2_with (first | (go_at_call 36; refine HC.out.mono ?_; rintro e w1 ⟨v1, rfl, ho1, hb1⟩; obtain ⟨g, cap, rfl, hbg⟩ := OwnE.open ho1 HL.out; have HO := hid (And.intro ho1 hb1); clear ho1 hb1) | (go_at_call 37; refine (sortSt_own (base := w.heap.size) HO.out.1 HL.out H1.out).mono ?_; rintro e w2 ⟨rfl, d2, hd2, hu2, ho2, hf2⟩; have HO2 := hid (And.intro hd2 (And.intro hu2 (And.intro ho2 hf2))); clear hd2 hu2 ho2 hf2) | (go_at_call 38; refine (compact_own (base := w.heap.size) HO2.out.1 HO2.out.2.2.1 (fun e => HL.out (List.eq_nil_of_length_eq_zero (by rw [← HO2.out.1, e]; rfl))) H1.out).mono ?_; rintro e w3 ⟨m, hm, rfl, ho3, hf3⟩; have HO3 := hid (And.intro hm (And.intro ho3 hf3)); clear hm ho3 hf3))
    go_ret
    obtain ⟨hm, ho3, hf3⟩ := HO3.out
    rw [HO2.out.2.1] at hm ho3
    subst hm
    exact ⟨_, _, rfl, ho3, Below.fr (Below.fr HO.out.2 HO2.out.2.2.2 (fun i hi e => by omega)) hf3 (fun i hi e => by omega)⟩
end Go.Proofs.Ytpomfegcifpfkaa
