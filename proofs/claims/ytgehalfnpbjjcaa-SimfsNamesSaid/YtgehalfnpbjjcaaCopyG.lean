/- simfs: a copy, as a plain file system, is a copy. -/
import Derived.Test.YtgehalfnpbjjcaaCopyF
namespace Go.Proofs.Ytgehalfnpbjjcaa
open Go Go.RowKit Go.Sort
def chgCopy (φ : List (Nat × Nat)) (c : Chg) : Chg := ⟨c.nm, c.src, c.dst.map (phi φ)⟩
/-- The copy, i changes of which are copied. -/
def midF (st : FSt) (φ : List (Nat × Nat)) (d1 d2 : Dir) (i : Nat) (steps : Int) : FSt := ⟨st.room, filesC st φ, d1, d2, (st.chg.take i).map (chgCopy φ), st.left, st.armed, st.down, steps⟩
theorem chgCopy_ext {φ φ' : List (Nat × Nat)} (h : Ext φ φ') {c : Chg} (hc : ∀ p, c.dst = some p → (dget φ p).isSome = true) : chgCopy φ' c = chgCopy φ c := by
  obtain ⟨nm, src, dst⟩ := c
  unfold chgCopy
  cases dst with
  | none => rfl
  | some p =>
    obtain ⟨b, hb⟩ := Option.isSome_iff_exists.1 (hc p rfl)
    simp only [Option.map_some]
    rw [phi_at hb, phi_at (h _ _ hb)]
theorem mid_chg_ext {φ φ' : List (Nat × Nat)} (h : Ext φ φ') {l : List Chg} (hl : ∀ c ∈ l, ∀ p, c.dst = some p → (dget φ p).isSome = true) : l.map (chgCopy φ') = l.map (chgCopy φ) :=
  List.map_congr_left fun c hc => chgCopy_ext h (hl c hc)
section
variable {st : FSt} {φ : List (Nat × Nat)} {d1 d2 : Dir} {steps : Int}
theorem mid_dir (hn : (φ.map Prod.snd).Nodup) {d d' : Dir} (hp : d'.Perm (toC φ d)) (hi : ∀ p ∈ d, (dget φ p.2).isSome = true) (hd : ∀ p ∈ d, (st.files p.2).isSome = true ∧ nameR p.1 = true) : ∀ p ∈ d', (filesC st φ p.2).isSome = true ∧ nameR p.1 = true := fun p hp' => by
  have h1 := hp.mem_iff.1 hp'
  obtain ⟨q, hq, rfl⟩ := List.mem_map.1 h1
  have h2 := filesC_phi (st := st) hn (hi q hq)
  exact ⟨by rw [show (filesC st φ ((dget φ q.2).getD 0)) = st.files q.2 from h2]; exact (hd q hq).1, (hd q hq).2⟩
theorem mid_ok (hok : st.Ok) (hn : (φ.map Prod.snd).Nodup) (n1 : (d1.map Prod.fst).Nodup) (n2 : (d2.map Prod.fst).Nodup) (p1 : d1.Perm (toC φ st.seen)) (p2 : d2.Perm (toC φ st.safe)) (i1 : ∀ p ∈ st.seen, (dget φ p.2).isSome = true) (i2 : ∀ p ∈ st.safe, (dget φ p.2).isSome = true)
    (ic : ∀ c ∈ st.chg, ∀ p, c.dst = some p → (dget φ p).isSome = true) : (midF st φ d1 d2 st.chg.length steps).Ok where
  room0 := hok.room0
  room1 := hok.room1
  seenN := n1
  safeN := n2
  seenI := mid_dir hn p1 i1 hok.seenI
  safeI := mid_dir hn p2 i2 hok.safeI
  chgI := fun c hc => by
    have hc' : c ∈ (st.chg.take st.chg.length).map (chgCopy φ) := hc
    rw [List.take_length] at hc'
    obtain ⟨b, hb, rfl⟩ := List.mem_map.1 hc'
    refine ⟨(hok.chgI b hb).1, fun q hq => ?_⟩
    obtain ⟨p, hp, rfl⟩ := Option.map_eq_some_iff.1 hq
    show (filesC st φ (phi φ p)).isSome = true
    rw [filesC_phi hn (ic b hb p hp)]
    exact (hok.chgI b hb).2 p hp
  fil := fun q x hq => by
    obtain ⟨p, _, hx⟩ := filesC_some hq
    exact hok.fil p x hx
theorem mid_copy (hn : (φ.map Prod.snd).Nodup) (p1 : d1.Perm (toC φ st.seen)) (p2 : d2.Perm (toC φ st.safe)) (i1 : ∀ p ∈ st.seen, (dget φ p.2).isSome = true) (i2 : ∀ p ∈ st.safe, (dget φ p.2).isSome = true)
    (ic : ∀ c ∈ st.chg, ∀ p, c.dst = some p → (dget φ p).isSome = true) : CopyOf st (midF st φ d1 d2 st.chg.length st.steps) (phi φ) := by
  have hsome : ∀ p, ((∃ n, (n, p) ∈ st.seen ∨ (n, p) ∈ st.safe) ∨ (∃ c ∈ st.chg, c.dst = some p)) → (dget φ p).isSome = true := fun p hp => by
    rcases hp with ⟨n, h | h⟩ | ⟨c, hc, h⟩
    · exact i1 _ h
    · exact i2 _ h
    · exact ic c hc p h
  exact {
    room := rfl
    left := rfl
    armed := rfl
    down := rfl
    steps := rfl
    seen := p1
    safe := p2
    chg := by show (st.chg.take st.chg.length).map (chgCopy φ) = _; rw [List.take_length]; rfl
    fil := fun p hp => filesC_phi hn (hsome p hp)
    inj := fun p q hp hq e => phi_inj hn (hsome p hp) (hsome q hq) e }
end
end Go.Proofs.Ytgehalfnpbjjcaa
