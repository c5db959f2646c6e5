/- simfs: what a copy's files are; a copy of nowhere. -/
import Derived.Test.YtgehalfnpbjjcaaSimR
namespace Go.Proofs.Ytgehalfnpbjjcaa
open Go Go.RowKit Go.Sort
set_option maxRecDepth 100000 in
theorem cpFile_nil (mc : Nat) (w : World) : Calls Try.prog 61 #[.map (some mc), .pointer none] w fun e w' => e = .returned (.pointer none) ∧ w' = w := by
  go_enter Try.func61, Try.ntmps61
  go_wp2
  go_ret
  exact ⟨rfl, rfl⟩
/-- The file whose copy q is. -/
def filesC (st : FSt) (φ : List (Nat × Nat)) : Nat → Option Fil := fun q => match φ.find? fun p => decide (p.2 = q) with | some p => st.files p.1 | none => none
theorem filesC_some {st : FSt} {φ : List (Nat × Nat)} {q : Nat} {x : Fil} (h : filesC st φ q = some x) : ∃ p, (p, q) ∈ φ ∧ st.files p = some x := by
  unfold filesC at h
  split at h
  · rename_i p hp
    have h1 := List.find?_some hp
    have h2 := List.mem_of_find?_eq_some hp
    simp only [decide_eq_true_eq] at h1
    subst h1
    exact ⟨p.1, h2, h⟩
  · cases h
theorem snd_inj {φ : List (Nat × Nat)} (hn : (φ.map Prod.snd).Nodup) {p p' q : Nat} (h : (p, q) ∈ φ) (h' : (p', q) ∈ φ) : p = p' := by
  induction φ with
  | nil => simp at h
  | cons a φ ih =>
    simp only [List.map_cons, List.nodup_cons] at hn
    rcases List.mem_cons.1 h with h | h
    · rcases List.mem_cons.1 h' with h' | h'
      · rw [← h] at h'
        injection h' with h' _
        exact h'.symm
      · exact absurd (List.mem_map.2 ⟨_, h', by rw [← h]⟩) hn.1
    · rcases List.mem_cons.1 h' with h' | h'
      · exact absurd (List.mem_map.2 ⟨_, h, by rw [← h']⟩) hn.1
      · exact ih hn.2 h h'
theorem filesC_at {st : FSt} {φ : List (Nat × Nat)} (hn : (φ.map Prod.snd).Nodup) {p q : Nat} (h : (p, q) ∈ φ) : filesC st φ q = st.files p := by
  unfold filesC
  split
  · rename_i p' hp
    have h1 := List.find?_some hp
    have h2 := List.mem_of_find?_eq_some hp
    simp only [decide_eq_true_eq] at h1
    obtain ⟨a, b⟩ := p'
    simp only at h1
    subst h1
    rw [snd_inj hn h2 h]
  · rename_i hp
    rw [List.find?_eq_none] at hp
    have := hp _ h
    simp at this
/-- The copies' files, as a file system over them has them. -/
theorem Copies.files {w : World} {F D : Nat → Prop} {base mc : Nat} {st : FSt} {φ : List (Nat × Nat)} (h : Copies w F D base st mc φ) (hb : ∀ k, D k → k < base) : ∀ q x, filesC st φ q = some x →
    base ≤ q ∧ ∃ v, w.heap[q]? = some (.cells #[v, .int .i64 (x.safe : Int)] 81 (0, 0)) ∧ Bs (fun k => ((D k ∧ ¬ F k) ∨ base ≤ k) → base ≤ k) w v x.b := fun q x hq => by
  obtain ⟨p, hp, hx⟩ := filesC_some hq
  obtain ⟨h1, y, v, h2, h3, h4⟩ := h.each p q hp
  rw [hx] at h2
  injection h2 with h2
  subst h2
  refine ⟨h1, v, h3, h4.mono (fun k _ hs hD => Classical.byContradiction fun hF => ?_)⟩
  have h5 := hs (.inl ⟨hD, hF⟩)
  have := hb k hD
  omega
/-- As a function. -/
def phi (φ : List (Nat × Nat)) (p : Nat) : Nat := (dget φ p).getD 0
theorem phi_at {φ : List (Nat × Nat)} {p q : Nat} (h : dget φ p = some q) : phi φ p = q := by unfold phi; rw [h]; rfl
theorem toC_phi (φ : List (Nat × Nat)) (d : Dir) : toC φ d = d.map fun p => (p.1, phi φ p.2) := rfl
theorem phi_inj {φ : List (Nat × Nat)} (hn : (φ.map Prod.snd).Nodup) {p q : Nat} (hp : (dget φ p).isSome = true) (hq : (dget φ q).isSome = true) (h : phi φ p = phi φ q) : p = q := by
  obtain ⟨a, ha⟩ := Option.isSome_iff_exists.1 hp
  obtain ⟨b, hb⟩ := Option.isSome_iff_exists.1 hq
  rw [phi_at ha, phi_at hb] at h
  subst h
  exact snd_inj hn (mem_of_dget ha) (mem_of_dget hb)
theorem filesC_phi {st : FSt} {φ : List (Nat × Nat)} (hn : (φ.map Prod.snd).Nodup) {p : Nat} (hp : (dget φ p).isSome = true) : filesC st φ (phi φ p) = st.files p := by
  obtain ⟨a, ha⟩ := Option.isSome_iff_exists.1 hp
  rw [phi_at ha]
  exact filesC_at hn (mem_of_dget ha)
end Go.Proofs.Ytgehalfnpbjjcaa
