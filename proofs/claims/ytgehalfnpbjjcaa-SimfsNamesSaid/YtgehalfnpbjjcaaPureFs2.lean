/- simfs, as plain functions: what is listed, what survives, copies. -/
import Derived.Test.YtgehalfnpbjjcaaPureFs
import Derived.Sort.KeysCollected
namespace Go.Proofs.Ytgehalfnpbjjcaa
open Go Go.RowKit
def sortN (l : List ByteArray) : List ByteArray := ((l.map (·.data.toList)).mergeSort leB).map fun b => ⟨b.toArray⟩
theorem sortN_perm {l l' : List ByteArray} (h : l.Perm l') : sortN l = sortN l' := by
  unfold sortN
  rw [mergeSort_of_perm (h.map _)]
theorem bytes_back (s : ByteArray) : (⟨s.data.toList.toArray⟩ : ByteArray) = s := by cases s; rfl
theorem perm_sortN (l : List ByteArray) : (sortN l).Perm l := by
  unfold sortN
  have h1 := (List.mergeSort_perm (l.map (·.data.toList)) leB).map (fun b : List UInt8 => (⟨b.toArray⟩ : ByteArray))
  refine h1.trans ?_
  rw [List.map_map]
  have : ((fun b : List UInt8 => (⟨b.toArray⟩ : ByteArray)) ∘ fun s : ByteArray => s.data.toList) = id := by funext s; exact bytes_back s
  rw [this, List.map_id]
theorem sortN_length (l : List ByteArray) : (sortN l).length = l.length := (perm_sortN l).length_eq
def listF (st : FSt) : List ByteArray := if st.down then [] else sortN (st.seen.map Prod.fst)
/-- What survives of a file. -/
def cutN (cuts : List Int) (i : Nat) (x : Fil) : Nat := x.safe + (match cuts[i]? with | some c => (min (max c 0) ((x.b.length : Int) - (x.safe : Int))).toNat | none => 0)
def cutF (cuts : List Int) (i : Nat) (x : Fil) : Fil := ⟨x.b.take (cutN cuts i x), cutN cuts i x⟩
def upGo (cuts : List Int) : List Nat → Nat → List Nat → (Nat → Option Fil) → (Nat → Option Fil)
  | [], _, _, fs => fs
  | p :: l, i, done, fs => if p ∈ done then upGo cuts l (i + 1) done fs else upGo cuts l (i + 1) (p :: done) (match fs p with | some x => putFil fs p (cutF cuts i x) | none => fs)
def ptrsF (d : Dir) : List Nat := (sortN (d.map Prod.fst)).map fun n => (dget d n).getD 0
def upN (st : FSt) (n : Int) : Nat := (min (max n 0) (st.chg.length : Int)).toNat
def upF (st : FSt) (n : Int) (cuts : List Int) : FSt :=
  { settleF st (upN st n) with files := upGo cuts (ptrsF (settleF st (upN st n)).safe) 0 [] st.files, seen := (settleF st (upN st n)).safe, armed := false, down := false }
theorem cutN_le {cuts : List Int} {i : Nat} {x : Fil} (h : x.safe ≤ x.b.length) : cutN cuts i x ≤ x.b.length := by
  unfold cutN
  split
  · rename_i c _
    have h1 := Int.min_le_right (max c 0) ((x.b.length : Int) - (x.safe : Int))
    have h2 : (min (max c 0) ((x.b.length : Int) - (x.safe : Int))).toNat ≤ x.b.length - x.safe := Int.toNat_le.2 (by omega)
    exact Nat.le_trans (Nat.add_le_add_left h2 _) (by omega)
  · omega
/-- What files are always. -/
def FilsOk (f : Nat → Option Fil) : Prop := ∀ p x, f p = some x → x.safe ≤ x.b.length ∧ x.b.length ≤ 99000
theorem putFil_ok {f : Nat → Option Fil} (h : FilsOk f) {p : Nat} {x : Fil} (hx : x.safe ≤ x.b.length ∧ x.b.length ≤ 99000) : FilsOk (putFil f p x) := fun q y hy => by
  simp only [putFil] at hy
  split at hy
  · injection hy with hy; subst hy; exact hx
  · exact h q y hy
theorem upGo_ok {cuts : List Int} : ∀ {l : List Nat} {i : Nat} {done : List Nat} {f : Nat → Option Fil}, FilsOk f → FilsOk (upGo cuts l i done f) ∧ ∀ p, (f p).isSome = (upGo cuts l i done f p).isSome
  | [], _, _, _, h => ⟨h, fun _ => rfl⟩
  | p :: l, i, done, f, h => by
    unfold upGo
    split
    · exact upGo_ok h
    · split
      · rename_i x hx
        have hc := h p x hx
        have hn := cutN_le (cuts := cuts) (i := i) hc.1
        have h1 : FilsOk (putFil f p (cutF cuts i x)) := putFil_ok h (by
          unfold cutF
          simp only [List.length_take]
          omega)
        obtain ⟨h2, h3⟩ := upGo_ok (cuts := cuts) (l := l) (i := i + 1) (done := p :: done) h1
        refine ⟨h2, fun q => ?_⟩
        rw [← h3 q]
        unfold putFil
        split
        · rename_i e; rw [e, hx]; rfl
        · rfl
      · exact upGo_ok h
theorem FSt.Ok.up {st : FSt} (h : st.Ok) (n : Int) (cuts : List Int) : (upF st n cuts).Ok := by
  have hs := h.settle (upN st n)
  obtain ⟨h1, h2⟩ := upGo_ok (cuts := cuts) (l := ptrsF (settleF st (upN st n)).safe) (i := 0) (done := []) (f := st.files) h.fil
  exact {
    room0 := h.room0
    room1 := h.room1
    seenN := hs.safeN
    safeN := hs.safeN
    seenI := fun p hp => by
      have := hs.safeI p hp
      exact ⟨by show (upGo cuts _ 0 [] st.files p.2).isSome = true; rw [← h2]; exact this.1, this.2⟩
    safeI := fun p hp => by
      have := hs.safeI p hp
      exact ⟨by show (upGo cuts _ 0 [] st.files p.2).isSome = true; rw [← h2]; exact this.1, this.2⟩
    chgI := fun c hc => by simp [upF, settleF] at hc
    fil := h1 }
/-- What a file system is once it is made. -/
def newF (room : Int) : FSt := ⟨room, fun _ => none, [], [], [], 0, false, false, 0⟩
theorem newF_ok {room : Int} (h0 : 0 ≤ room) (h1 : room ≤ 99000) : (newF room).Ok :=
  ⟨h0, h1, by simp [newF], by simp [newF], by simp [newF], by simp [newF], by simp [newF], fun p x h => by simp [newF] at h⟩
/-- A copy: its files have blocks of their own. -/
structure CopyOf (st st' : FSt) (φ : Nat → Nat) : Prop where
  room : st'.room = st.room
  left : st'.left = st.left
  armed : st'.armed = st.armed
  down : st'.down = st.down
  steps : st'.steps = st.steps
  seen : st'.seen.Perm (st.seen.map fun p => (p.1, φ p.2))
  safe : st'.safe.Perm (st.safe.map fun p => (p.1, φ p.2))
  chg : st'.chg = st.chg.map fun c => ⟨c.nm, c.src, c.dst.map φ⟩
  fil : ∀ p, (∃ n, (n, p) ∈ st.seen ∨ (n, p) ∈ st.safe) ∨ (∃ c ∈ st.chg, c.dst = some p) → st'.files (φ p) = st.files p
  inj : ∀ p q, ((∃ n, (n, p) ∈ st.seen ∨ (n, p) ∈ st.safe) ∨ (∃ c ∈ st.chg, c.dst = some p)) → ((∃ n, (n, q) ∈ st.seen ∨ (n, q) ∈ st.safe) ∨ (∃ c ∈ st.chg, c.dst = some q)) → φ p = φ q → p = q
end Go.Proofs.Ytgehalfnpbjjcaa
