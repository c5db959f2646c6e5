/- simfs: the rounds of Up, as plain functions. -/
import Derived.Test.YtgehalfnpbjjcaaPureFs2
namespace Go.Proofs.Ytgehalfnpbjjcaa
open Go Go.RowKit
theorem drop_at {α : Type} {l : List α} {i : Nat} {x : α} (h : l[i]? = some x) : l.drop i = x :: l.drop (i + 1) := by
  obtain ⟨hi, rfl⟩ := List.getElem?_eq_some_iff.1 h
  exact List.drop_eq_getElem_cons hi
theorem upGo_in {cuts : List Int} {l : List Nat} {i p : Nat} {done : List Nat} {f : Nat → Option Fil} (h : l[i]? = some p) (hp : p ∈ done) : upGo cuts (l.drop i) i done f = upGo cuts (l.drop (i + 1)) (i + 1) done f := by
  rw [drop_at h]
  show (if p ∈ done then _ else _) = _
  rw [if_pos hp]
theorem upGo_new {cuts : List Int} {l : List Nat} {i p : Nat} {done : List Nat} {f : Nat → Option Fil} {x : Fil} (h : l[i]? = some p) (hp : p ∉ done) (hx : f p = some x) : upGo cuts (l.drop i) i done f = upGo cuts (l.drop (i + 1)) (i + 1) (p :: done) (putFil f p (cutF cuts i x)) := by
  rw [drop_at h]
  show (if p ∈ done then _ else upGo cuts _ _ _ (match f p with | some x => putFil f p (cutF cuts i x) | none => f)) = _
  rw [if_neg hp, hx]
theorem upGo_end {cuts : List Int} {l : List Nat} {i : Nat} {done : List Nat} {f : Nat → Option Fil} (h : l.length ≤ i) : upGo cuts (l.drop i) i done f = f := by
  rw [List.drop_eq_nil_of_le h]
  rfl
theorem name_at {d : Dir} (hn : (d.map Prod.fst).Nodup) {i : Nat} {n : ByteArray} (h : (sortN (d.map Prod.fst))[i]? = some n) : ∃ p, dget d n = some p ∧ (n, p) ∈ d ∧ (ptrsF d)[i]? = some p := by
  have h1 : n ∈ d.map Prod.fst := (perm_sortN _).mem_iff.1 (List.mem_of_getElem? h)
  obtain ⟨⟨n', p⟩, h2, rfl⟩ := List.mem_map.1 h1
  refine ⟨p, dget_mem hn h2, h2, ?_⟩
  unfold ptrsF
  rw [List.getElem?_map, h]
  simp only [Option.map_some, Option.some.injEq]
  rw [dget_mem hn h2]
  rfl
theorem ptrsF_length (d : Dir) : (ptrsF d).length = d.length := by
  unfold ptrsF
  rw [List.length_map, sortN_length, List.length_map]
/-- The files in hand, and what is done. -/
def DoneF (dn : List (Nat × Bool)) (done : List Nat) : Prop := ∀ p, dget dn p = if p ∈ done then some true else none
theorem DoneF.put {dn : List (Nat × Bool)} {done : List Nat} (h : DoneF dn done) (hn : (dn.map Prod.fst).Nodup) (p : Nat) : DoneF (dput dn p true) (p :: done) := fun q => by
  by_cases e : q = p
  · subst e
    rw [dget_put_self hn, if_pos (by simp)]
  · rw [dget_put_ne hn e, h q]
    simp [e]
theorem DoneF.nil : DoneF [] [] := fun p => by simp [dget]
theorem cutF_ok {cuts : List Int} {i : Nat} {x : Fil} (h : x.safe ≤ x.b.length ∧ x.b.length ≤ 99000) : (cutF cuts i x).safe ≤ (cutF cuts i x).b.length ∧ (cutF cuts i x).b.length ≤ 99000 := by
  have hn := cutN_le (cuts := cuts) (i := i) h.1
  unfold cutF
  simp only [List.length_take]
  omega
end Go.Proofs.Ytgehalfnpbjjcaa
