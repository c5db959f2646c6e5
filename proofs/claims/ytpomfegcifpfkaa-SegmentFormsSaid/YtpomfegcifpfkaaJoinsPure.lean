/- The plain side of SegmentJoins. -/
import Derived.Test.YtpomfegcifpfkaaSegFind
namespace Go.Proofs.Ytpomfegcifpfkaa
open Go Go.RowKit Go.Sort
theorem rightL_of {l : List Ent} (hA : Asc l) (hP : ∀ e ∈ l, rightP e = true) (hl : l.length ≤ 900) : rightL l = true := by
  unfold rightL
  rw [Bool.and_eq_true]
  refine ⟨?_, by simpa using hl⟩
  unfold rightTo
  rw [List.all_eq_true]
  intro i hi
  have hi' : i < l.length := by simpa using hi
  rw [Bool.and_eq_true, Bool.or_eq_true]
  refine ⟨by rw [getElem!_pos l i hi']; exact hP _ (List.getElem_mem hi'), ?_⟩
  by_cases h0 : i = 0
  · left; simp [h0]
  · right; exact hA.at (by omega) hi'
theorem rightL_mem {l : List Ent} (h : rightL l = true) {e : Ent} (he : e ∈ l) : rightP e = true := by
  unfold rightL at h
  rw [Bool.and_eq_true] at h
  have h1 := h.1
  unfold rightTo at h1
  rw [List.all_eq_true] at h1
  obtain ⟨i, hi, rfl⟩ := List.mem_iff_getElem.1 he
  have := h1 i (by simpa using hi)
  rw [Bool.and_eq_true, getElem!_pos l i hi] at this
  exact this.1
theorem sortE_of_asc {l : List Ent} (h : Asc l) : sortE l = l := Asc.ext (sortE_asc l) h (fun n => sortE_first n l)
theorem insE_length (e : Ent) : ∀ l : List Ent, l.length ≤ (insE e l).length
  | [] => by simp
  | a :: l => by
    rw [insE]
    have := insE_length e l
    split <;> (try split) <;> simp <;> omega
theorem foldl_insE_length : ∀ (b o : List Ent), o.length ≤ (b.foldl (fun o e => insE e o) o).length
  | [], _ => Nat.le_refl _
  | e :: b, o => Nat.le_trans (insE_length e o) (foldl_insE_length b (insE e o))
structure JoinF (a b j : List Ent) : Prop where
  right : rightL j = true
  le : j.length ≤ a.length + b.length
  ge : a.length ≤ j.length
  find : ∀ e, e ∈ j → findF j e.nm = some e
  one : ∀ e, e ∈ j → ∀ x, findF a e.nm = some x → x = e
  two : ∀ e, e ∈ j → findF a e.nm = none → findF b e.nm = some e
  all : ∀ e, e ∈ b → ∃ x, findF j e.nm = some x
theorem joinF {a b : List Ent} (ha : rightL a = true) (hb : rightL b = true) (hla : a.length ≤ 60) (hlb : b.length ≤ 60) : JoinF a b (sortE (a ++ b)) := by
  have hle : (sortE (a ++ b)).length ≤ a.length + b.length := by have := sortE_length (a ++ b); simpa using this
  have hr : rightL (sortE (a ++ b)) = true := rightL_of (sortE_asc _) (fun e he => by
    rcases List.mem_append.1 (sortE_mem he) with h | h
    · exact rightL_mem ha h
    · exact rightL_mem hb h) (by omega)
  have hf : ∀ n, findF (sortE (a ++ b)) n = (firstE n a).or (firstE n b) := fun n => by unfold findF; rw [hr, if_pos rfl, sortE_first, firstE_append]
  have fa : ∀ n, findF a n = firstE n a := fun n => by unfold findF; rw [ha, if_pos rfl]
  have fb : ∀ n, findF b n = firstE n b := fun n => by unfold findF; rw [hb, if_pos rfl]
  have hfind : ∀ e, e ∈ sortE (a ++ b) → findF (sortE (a ++ b)) e.nm = some e := fun e he => by unfold findF; rw [hr, if_pos rfl]; exact (sortE_asc _).firstE_eq he
  refine ⟨hr, hle, ?_, hfind, fun e he x hx => ?_, fun e he hx => ?_, fun e he => ?_⟩
  · have h1 := foldl_insE_length b (sortE a)
    rw [sortE_of_asc (rightL_asc ha)] at h1
    have : sortE (a ++ b) = b.foldl (fun o e => insE e o) (sortE a) := by unfold sortE; rw [List.foldl_append]
    rw [this, sortE_of_asc (rightL_asc ha)]; exact h1
  · have := hfind e he
    rw [hf, ← fa, hx] at this
    injection this
  · have := hfind e he
    rw [hf, ← fa, hx, ← fb] at this
    exact this
  · rw [hf]
    obtain ⟨x, hx⟩ := firstE_mem he
    rw [hx]
    cases firstE e.nm a with
    | none => exact ⟨x, rfl⟩
    | some y => exact ⟨y, rfl⟩
end Go.Proofs.Ytpomfegcifpfkaa
