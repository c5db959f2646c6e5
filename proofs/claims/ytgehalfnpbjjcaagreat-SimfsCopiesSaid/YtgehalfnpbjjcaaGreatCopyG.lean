/- simfs: what a copy's files are; a copy of nowhere. -/
import Derived.Test.YtgehalfnpbjjcaaGreatSimR
namespace Go.Proofs.YtgehalfnpbjjcaaGreat
open Go Go.RowKit Go.Sort
set_option maxRecDepth 100000 in
theorem cpFile_nil (mc : Nat) (w : World) : Calls Tryz.prog 35 #[.map (some mc), .pointer none] w fun e w' => e = .returned (.pointer none) ∧ w' = w := by
  go_enter Tryz.func35, Tryz.ntmps35
  go_wp2
  go_ret
  exact ⟨rfl, rfl⟩
/-- The file whose copy q is. -/
def filesC (st : FSt) (φ : List (Nat × Nat)) : Nat → Option Fil := fun q => match φ.find? fun p => decide (p.2 = q) with | some p => st.files p.1 | none => none
theorem filesC_some {st : FSt} {φ : List (Nat × Nat)} {q : Nat} {x : Fil} (h : filesC st φ q = some x) : ∃ p, (p, q) ∈ φ ∧ st.files p = some x := by
  unfold filesC at h
  split at h
  · rename_i p hp
    have h1 := List.find?_some hp
    have h2 := List.mem_of_find?_eq_some hp
    simp only [decide_eq_true_eq] at h1
    subst h1
    exact ⟨p.1, h2, h⟩
  · cases h
theorem snd_inj {φ : List (Nat × Nat)} (hn : (φ.map Prod.snd).Nodup) {p p' q : Nat} (h : (p, q) ∈ φ) (h' : (p', q) ∈ φ) : p = p' := by
  induction φ with
  | nil => simp at h
  | cons a φ ih =>
    simp only [List.map_cons, List.nodup_cons] at hn
    rcases List.mem_cons.1 h with h | h
    · rcases List.mem_cons.1 h' with h' | h'
      · rw [← h] at h'
        injection h' with h' _
        exact h'.symm
      · exact absurd (List.mem_map.2 ⟨_, h', by rw [← h]⟩) hn.1
    · rcases List.mem_cons.1 h' with h' | h'
      · exact absurd (List.mem_map.2 ⟨_, h, by rw [← h']⟩) hn.1
      · exact ih hn.2 h h'
theorem filesC_at {st : FSt} {φ : List (Nat × Nat)} (hn : (φ.map Prod.snd).Nodup) {p q : Nat} (h : (p, q) ∈ φ) : filesC st φ q = st.files p := by
  unfold filesC
  split
  · rename_i p' hp
    have h1 := List.find?_some hp
    have h2 := List.mem_of_find?_eq_some hp
    simp only [decide_eq_true_eq] at h1
    obtain ⟨a, b⟩ := p'
    simp only at h1
    subst h1
    rw [snd_inj hn h2 h]
  · rename_i hp
    rw [List.find?_eq_none] at hp
    have := hp _ h
    simp at this
/-- The copies' files, as a file system over them has them. -/
theorem Copies.files {w : World} {F D : Nat → Prop} {base mc : Nat} {st : FSt} {φ : List (Nat × Nat)} (h : Copies w F D base st mc φ) (hb : ∀ k, D k → k < base) : ∀ q x, filesC st φ q = some x →
    base ≤ q ∧ ∃ v, w.heap[q]? = some (.cells #[v, .int .i64 (x.safe : Int)] 87 (0, 0)) ∧ Bs (fun k => ((D k ∧ ¬ F k) ∨ base ≤ k) → base ≤ k) w v x.b := fun q x hq => by
  obtain ⟨p, hp, hx⟩ := filesC_some hq
  obtain ⟨h1, y, v, h2, h3, h4⟩ := h.each p q hp
  rw [hx] at h2
  injection h2 with h2
  subst h2
  refine ⟨h1, v, h3, h4.mono (fun k _ hs hD => Classical.byContradiction fun hF => ?_)⟩
  have h5 := hs (.inl ⟨hD, hF⟩)
  have := hb k hD
  omega
/-- As a function. -/
def phi (φ : List (Nat × Nat)) (p : Nat) : Nat := (dget φ p).getD 0
theorem phi_at {φ : List (Nat × Nat)} {p q : Nat} (h : dget φ p = some q) : phi φ p = q := by unfold phi; rw [h]; rfl
theorem toC_phi (φ : List (Nat × Nat)) (d : Dir) : toC φ d = d.map fun p => (p.1, phi φ p.2) := rfl
theorem phi_inj {φ : List (Nat × Nat)} (hn : (φ.map Prod.snd).Nodup) {p q : Nat} (hp : (dget φ p).isSome = true) (hq : (dget φ q).isSome = true) (h : phi φ p = phi φ q) : p = q := by
  obtain ⟨a, ha⟩ := Option.isSome_iff_exists.1 hp
  obtain ⟨b, hb⟩ := Option.isSome_iff_exists.1 hq
  rw [phi_at ha, phi_at hb] at h
  subst h
  exact snd_inj hn (mem_of_dget ha) (mem_of_dget hb)
theorem filesC_phi {st : FSt} {φ : List (Nat × Nat)} (hn : (φ.map Prod.snd).Nodup) {p : Nat} (hp : (dget φ p).isSome = true) : filesC st φ (phi φ p) = st.files p := by
  obtain ⟨a, ha⟩ := Option.isSome_iff_exists.1 hp
  rw [phi_at ha]
  exact filesC_at hn (mem_of_dget ha)
end Go.Proofs.YtgehalfnpbjjcaaGreat
/- simfs: a copy, as a plain file system, is a copy. -/
namespace Go.Proofs.YtgehalfnpbjjcaaGreat
open Go Go.RowKit Go.Sort
def chgCopy (φ : List (Nat × Nat)) (c : Chg) : Chg := ⟨c.nm, c.src, c.dst.map (phi φ)⟩
/-- The copy, i changes of which are copied. -/
def midF (st : FSt) (φ : List (Nat × Nat)) (d1 d2 : Dir) (i : Nat) (steps : Int) : FSt := ⟨st.room, filesC st φ, d1, d2, (st.chg.take i).map (chgCopy φ), st.left, st.armed, st.down, steps⟩
theorem chgCopy_ext {φ φ' : List (Nat × Nat)} (h : Ext φ φ') {c : Chg} (hc : ∀ p, c.dst = some p → (dget φ p).isSome = true) : chgCopy φ' c = chgCopy φ c := by
  obtain ⟨nm, src, dst⟩ := c
  unfold chgCopy
  cases dst with
  | none => rfl
  | some p =>
    obtain ⟨b, hb⟩ := Option.isSome_iff_exists.1 (hc p rfl)
    simp only [Option.map_some]
    rw [phi_at hb, phi_at (h _ _ hb)]
theorem mid_chg_ext {φ φ' : List (Nat × Nat)} (h : Ext φ φ') {l : List Chg} (hl : ∀ c ∈ l, ∀ p, c.dst = some p → (dget φ p).isSome = true) : l.map (chgCopy φ') = l.map (chgCopy φ) :=
  List.map_congr_left fun c hc => chgCopy_ext h (hl c hc)
section
variable {st : FSt} {φ : List (Nat × Nat)} {d1 d2 : Dir} {steps : Int}
theorem mid_dir (hn : (φ.map Prod.snd).Nodup) {d d' : Dir} (hp : d'.Perm (toC φ d)) (hi : ∀ p ∈ d, (dget φ p.2).isSome = true) (hd : ∀ p ∈ d, (st.files p.2).isSome = true ∧ nameR p.1 = true) : ∀ p ∈ d', (filesC st φ p.2).isSome = true ∧ nameR p.1 = true := fun p hp' => by
  have h1 := hp.mem_iff.1 hp'
  obtain ⟨q, hq, rfl⟩ := List.mem_map.1 h1
  have h2 := filesC_phi (st := st) hn (hi q hq)
  exact ⟨by rw [show (filesC st φ ((dget φ q.2).getD 0)) = st.files q.2 from h2]; exact (hd q hq).1, (hd q hq).2⟩
theorem mid_ok (hok : st.Ok) (hn : (φ.map Prod.snd).Nodup) (n1 : (d1.map Prod.fst).Nodup) (n2 : (d2.map Prod.fst).Nodup) (p1 : d1.Perm (toC φ st.seen)) (p2 : d2.Perm (toC φ st.safe)) (i1 : ∀ p ∈ st.seen, (dget φ p.2).isSome = true) (i2 : ∀ p ∈ st.safe, (dget φ p.2).isSome = true)
    (ic : ∀ c ∈ st.chg, ∀ p, c.dst = some p → (dget φ p).isSome = true) : (midF st φ d1 d2 st.chg.length steps).Ok where
  room0 := hok.room0
  room1 := hok.room1
  seenN := n1
  safeN := n2
  seenI := mid_dir hn p1 i1 hok.seenI
  safeI := mid_dir hn p2 i2 hok.safeI
  chgI := fun c hc => by
    have hc' : c ∈ (st.chg.take st.chg.length).map (chgCopy φ) := hc
    rw [List.take_length] at hc'
    obtain ⟨b, hb, rfl⟩ := List.mem_map.1 hc'
    refine ⟨(hok.chgI b hb).1, fun q hq => ?_⟩
    obtain ⟨p, hp, rfl⟩ := Option.map_eq_some_iff.1 hq
    show (filesC st φ (phi φ p)).isSome = true
    rw [filesC_phi hn (ic b hb p hp)]
    exact (hok.chgI b hb).2 p hp
  fil := fun q x hq => by
    obtain ⟨p, _, hx⟩ := filesC_some hq
    exact hok.fil p x hx
theorem mid_copy (hn : (φ.map Prod.snd).Nodup) (p1 : d1.Perm (toC φ st.seen)) (p2 : d2.Perm (toC φ st.safe)) (i1 : ∀ p ∈ st.seen, (dget φ p.2).isSome = true) (i2 : ∀ p ∈ st.safe, (dget φ p.2).isSome = true)
    (ic : ∀ c ∈ st.chg, ∀ p, c.dst = some p → (dget φ p).isSome = true) : CopyOf st (midF st φ d1 d2 st.chg.length st.steps) (phi φ) := by
  have hsome : ∀ p, ((∃ n, (n, p) ∈ st.seen ∨ (n, p) ∈ st.safe) ∨ (∃ c ∈ st.chg, c.dst = some p)) → (dget φ p).isSome = true := fun p hp => by
    rcases hp with ⟨n, h | h⟩ | ⟨c, hc, h⟩
    · exact i1 _ h
    · exact i2 _ h
    · exact ic c hc p h
  exact {
    room := rfl
    left := rfl
    armed := rfl
    down := rfl
    steps := rfl
    seen := p1
    safe := p2
    chg := by show (st.chg.take st.chg.length).map (chgCopy φ) = _; rw [List.take_length]; rfl
    fil := fun p hp => filesC_phi hn (hsome p hp)
    inj := fun p q hp hq e => phi_inj hn (hsome p hp) (hsome q hq) e }
end
end Go.Proofs.YtgehalfnpbjjcaaGreat
