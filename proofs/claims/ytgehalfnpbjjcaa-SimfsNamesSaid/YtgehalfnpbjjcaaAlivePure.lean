/- simfs: the chapter's example, in plain functions. -/
import Derived.Test.YtgehalfnpbjjcaaUpPure
namespace Go.Proofs.Ytgehalfnpbjjcaa
open Go Go.RowKit
def nA : ByteArray := ⟨#[97]⟩
/-- One file, seen but not safe. -/
structure OneF (st : FSt) (p : Nat) (x : Fil) : Prop where
  down : st.down = false
  armed : st.armed = false
  room : st.room = 100
  seen : st.seen = [(nA, p)]
  safe : st.safe = []
  chg : st.chg = [⟨nA, ByteArray.empty, some p⟩]
  fil : st.files p = some x
/-- One file, safe. -/
structure TwoF (st : FSt) (p : Nat) (x : Fil) : Prop where
  down : st.down = false
  safe : st.safe = [(nA, p)]
  chg : st.chg = []
  fil : st.files p = some x
theorem nameR_nA : nameR nA = true := by decide
theorem goF_free {st : FSt} (h : st.armed = false) (f : FSt → FSt) : goF st f = (f (tick st), 0) := by
  unfold goF
  rw [if_neg (by rw [h]; simp)]
theorem one_create (p : Nat) : OneF (createF (newF 100) nA p).1 p ⟨[], 0⟩ ∧ (createF (newF 100) nA p).2 = 0 := by
  have h5 : (findF (newF 100) nA).1 = 5 := by rfl
  unfold createF
  rw [if_pos h5, goF_free rfl]
  refine ⟨⟨rfl, rfl, rfl, rfl, rfl, rfl, ?_⟩, rfl⟩
  show putFil _ p _ p = _
  unfold putFil
  rw [if_pos rfl]
theorem one_find {st : FSt} {p : Nat} {x : Fil} (h : OneF st p x) : findF st nA = (0, some p) := by
  have h1 : dget st.seen nA = some p := by rw [h.seen]; rfl
  unfold findF
  rw [h.down, nameR_nA, h1]
  rfl
theorem one_append {st : FSt} {p : Nat} (h : OneF st p ⟨[], 0⟩) : OneF (appendF st nA [120]).1 p ⟨[120], 0⟩ ∧ (appendF st nA [120]).2 = 0 := by
  have hu : usedF st = 0 := by
    unfold usedF lenF
    rw [h.seen]
    simp [h.fil]
  unfold appendF
  rw [one_find h]
  simp only
  rw [if_neg (by rw [hu, h.room]; decide), goF_free h.armed]
  have hf : (tick st).files p = some ⟨[], 0⟩ := h.fil
  rw [hf]
  refine ⟨⟨h.down, h.armed, h.room, h.seen, h.safe, h.chg, ?_⟩, rfl⟩
  show putFil _ p _ p = _
  unfold putFil
  rw [if_pos rfl]
  rfl
theorem one_fsync {st : FSt} {p : Nat} (h : OneF st p ⟨[120], 0⟩) : OneF (fsyncF st nA).1 p ⟨[120], 1⟩ ∧ (fsyncF st nA).2 = 0 := by
  unfold fsyncF
  rw [one_find h]
  simp only
  rw [goF_free h.armed]
  have hf : (tick st).files p = some ⟨[120], 0⟩ := h.fil
  rw [hf]
  refine ⟨⟨h.down, h.armed, h.room, h.seen, h.safe, h.chg, ?_⟩, rfl⟩
  show putFil _ p _ p = _
  unfold putFil
  rw [if_pos rfl]
  rfl
theorem one_copy {st st' : FSt} {p : Nat} {x : Fil} {φ : Nat → Nat} (h : OneF st p x) (hc : CopyOf st st' φ) : OneF st' (φ p) x where
  down := hc.down.trans h.down
  armed := hc.armed.trans h.armed
  room := hc.room.trans h.room
  seen := by
    have h1 := hc.seen
    rw [h.seen] at h1
    exact List.perm_singleton.1 h1
  safe := by
    have h1 := hc.safe
    rw [h.safe] at h1
    exact List.perm_nil.1 h1
  chg := by
    rw [hc.chg, h.chg]
    rfl
  fil := by
    rw [hc.fil p (.inl ⟨nA, .inl (by rw [h.seen]; simp)⟩)]
    exact h.fil
theorem one_sync {st : FSt} {p : Nat} {x : Fil} (h : OneF st p x) : TwoF (syncF st).1 p x := by
  unfold syncF
  rw [h.down]
  simp only [Bool.false_eq_true, if_false]
  rw [goF_free h.armed]
  refine ⟨h.down, ?_, rfl, h.fil⟩
  show doAll st.safe (st.chg.take st.chg.length) = _
  rw [List.take_length, h.safe, h.chg]
  rfl
theorem upN_zero (st : FSt) : upN st 0 = 0 := by unfold upN; omega
theorem sortN_one (x : ByteArray) : sortN [x] = [x] := by
  have h := (perm_sortN [x])
  exact List.perm_singleton.1 h
theorem two_up {st : FSt} {p : Nat} (h : TwoF st p ⟨[120], 1⟩) : readF (upF st 0 []) nA = ([120], 0) := by
  have hs : (settleF st (upN st 0)).safe = [(nA, p)] := by
    rw [upN_zero]
    show doAll st.safe (st.chg.take 0) = _
    rw [List.take_zero]
    exact h.safe
  have hp : ptrsF [(nA, p)] = [p] := by
    unfold ptrsF
    rw [show ([(nA, p)].map Prod.fst) = [nA] from rfl, sortN_one]
    rfl
  have hf : findF (upF st 0 []) nA = (0, some p) := by
    have h1 : dget (upF st 0 []).seen nA = some p := by
      show dget (settleF st (upN st 0)).safe nA = some p
      rw [hs]
      rfl
    unfold findF
    rw [h1, nameR_nA]
    rfl
  unfold readF
  rw [hf]
  simp only
  unfold bytesF
  have hfi : (upF st 0 []).files p = some ⟨[120], 1⟩ := by
    show upGo [] (ptrsF (settleF st (upN st 0)).safe) 0 [] st.files p = _
    rw [hs, hp]
    show (match st.files p with | some x => putFil st.files p (cutF [] 0 x) | none => st.files) p = _
    rw [h.fil]
    simp only
    unfold putFil
    rw [if_pos rfl]
    rfl
  rw [hfi]
theorem one_up {st : FSt} {p : Nat} {x : Fil} (h : OneF st p x) : (listF (upF st 0 [])).length = 0 ∧ (upF st 0 []).seen = [] := by
  have hs : (settleF st (upN st 0)).safe = [] := by
    rw [upN_zero]
    show doAll st.safe (st.chg.take 0) = _
    rw [List.take_zero]
    exact h.safe
  have h1 : (upF st 0 []).seen = [] := hs
  refine ⟨?_, h1⟩
  unfold listF
  rw [show (upF st 0 []).down = false from rfl, h1]
  simp [sortN_length]
end Go.Proofs.Ytgehalfnpbjjcaa
