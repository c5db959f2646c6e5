/- simfs, as plain functions: files by the blocks that hold them, two directories, the changes between them. -/
import Derived.Test.YtgehalfnpbjjcaaMapG
namespace Go.Proofs.Ytgehalfnpbjjcaa
open Go Go.RowKit
/-- A file: its bytes, and how many of them are safe. -/
structure Fil where
  b : List UInt8
  safe : Nat
/-- A change of a directory. -/
structure Chg where
  nm : ByteArray
  src : ByteArray
  dst : Option Nat
/-- A file system. -/
structure FSt where
  room : Int
  files : Nat → Option Fil
  seen : List (ByteArray × Nat)
  safe : List (ByteArray × Nat)
  chg : List Chg
  left : Int
  armed : Bool
  down : Bool
  steps : Int
abbrev Dir := List (ByteArray × Nat)
/-- Which names are right. -/
def byteR (b : UInt8) : Bool := decide (33 ≤ b.toNat ∧ b.toNat ≤ 126 ∧ b.toNat ≠ 47)
def nameR (s : ByteArray) : Bool := decide (1 ≤ s.size ∧ s.size ≤ 40) && s.data.toList.all byteR
def putFil (f : Nat → Option Fil) (p : Nat) (x : Fil) : Nat → Option Fil := fun q => if q = p then some x else f q
/-- A change, done to a directory. -/
def doF (d : Dir) (c : Chg) : Dir :=
  let d1 := if c.src = ByteArray.empty then d else ddel d c.src
  match c.dst with
  | none => ddel d1 c.nm
  | some p => dput d1 c.nm p
def doAll (d : Dir) (l : List Chg) : Dir := l.foldl doF d
def isF (st : FSt) : Int := if st.down then 12 else 0
def namedF (st : FSt) (n : ByteArray) : Int := if st.down then 12 else if nameR n then 0 else 10
def findF (st : FSt) (n : ByteArray) : Int × Option Nat :=
  if st.down then (12, none) else if nameR n then (match dget st.seen n with | none => (5, none) | some p => (0, some p)) else (10, none)
/-- One step, if one is left. -/
def tick (st : FSt) : FSt := { st with left := wrap64 (st.left - 1), steps := wrap64 (st.steps + 1) }
def goF (st : FSt) (f : FSt → FSt) : FSt × Int := if st.armed ∧ st.left = 0 then ({ st with down := true }, 12) else (f (tick st), 0)
def chgF (st : FSt) (c : Chg) : FSt := { st with seen := doF st.seen c, chg := st.chg ++ [c] }
def createF (st : FSt) (n : ByteArray) (p : Nat) : FSt × Int :=
  if (findF st n).1 = 5 then goF st fun s => chgF { s with files := putFil s.files p ⟨[], 0⟩ } ⟨n, ByteArray.empty, some p⟩
  else (st, if (findF st n).1 = 0 then 6 else (findF st n).1)
def lenF (f : Nat → Option Fil) (p : Nat) : Nat := match f p with | some x => x.b.length | none => 0
def usedF (st : FSt) : Nat := (st.seen.map fun p => lenF st.files p.2).sum
def bytesF (st : FSt) (p : Nat) : List UInt8 := match st.files p with | some x => x.b | none => []
def appendF (st : FSt) (n : ByteArray) (b : List UInt8) : FSt × Int :=
  match findF st n with
  | (0, some p) => if st.room - usedF st < b.length then (st, 11) else goF st fun s => match s.files p with | some x => { s with files := putFil s.files p ⟨x.b ++ b, x.safe⟩ } | none => s
  | (f, _) => (st, f)
def readF (st : FSt) (n : ByteArray) : List UInt8 × Int :=
  match findF st n with
  | (0, some p) => (bytesF st p, 0)
  | (f, _) => ([], f)
def sizeF (st : FSt) (n : ByteArray) : Int × Int := (((readF st n).1.length : Nat), (readF st n).2)
def renameF (st : FSt) (a b : ByteArray) : FSt × Int :=
  if namedF st a ≠ 0 then (st, namedF st a)
  else if namedF st b ≠ 0 then (st, namedF st b)
  else match findF st a with
  | (0, some p) => goF st fun s => chgF s ⟨b, a, some p⟩
  | (f, _) => (st, f)
def removeF (st : FSt) (n : ByteArray) : FSt × Int :=
  if (findF st n).1 = 0 then goF st fun s => chgF s ⟨n, ByteArray.empty, none⟩ else (st, (findF st n).1)
def fsyncF (st : FSt) (n : ByteArray) : FSt × Int :=
  match findF st n with
  | (0, some p) => goF st fun s => match s.files p with | some x => { s with files := putFil s.files p ⟨x.b, x.b.length⟩ } | none => s
  | (f, _) => (st, f)
def settleF (st : FSt) (n : Nat) : FSt := { st with safe := doAll st.safe (st.chg.take n), chg := [] }
def syncF (st : FSt) : FSt × Int := if st.down then (st, 12) else goF st fun s => settleF s s.chg.length
def armF (st : FSt) (n : Int) : FSt × Int := if st.down then (st, 12) else if n < 0 then (st, 1) else ({ st with left := n, armed := true }, 0)
def flipF (st : FSt) (n : ByteArray) (i : Int) (x : UInt8) : FSt × Int :=
  match findF st n with
  | (0, some p) => if i < 0 ∨ (bytesF st p).length ≤ i then (st, 1) else
      (match st.files p with | some y => { st with files := putFil st.files p ⟨y.b.modify i.toNat (· ^^^ x), y.safe⟩ } | none => st, 0)
  | (f, _) => (st, f)
/-- What is well formed. -/
structure FSt.Ok (st : FSt) : Prop where
  room0 : 0 ≤ st.room
  room1 : st.room ≤ 99000
  seenN : (st.seen.map Prod.fst).Nodup
  safeN : (st.safe.map Prod.fst).Nodup
  seenI : ∀ p ∈ st.seen, (st.files p.2).isSome = true ∧ nameR p.1 = true
  safeI : ∀ p ∈ st.safe, (st.files p.2).isSome = true ∧ nameR p.1 = true
  chgI : ∀ c ∈ st.chg, nameR c.nm = true ∧ ∀ p, c.dst = some p → (st.files p).isSome = true
  fil : ∀ p x, st.files p = some x → x.safe ≤ x.b.length ∧ x.b.length ≤ 99000
theorem doF_nodup {d : Dir} (h : (d.map Prod.fst).Nodup) (c : Chg) : ((doF d c).map Prod.fst).Nodup := by
  unfold doF
  have h1 : ((if c.src = ByteArray.empty then d else ddel d c.src).map Prod.fst).Nodup := by split; exact h; exact ddel_nodup h _
  simp only
  split
  · exact ddel_nodup h1 _
  · exact dput_nodup h1 _ _
theorem mem_ddel {d : Dir} {k : ByteArray} {p : ByteArray × Nat} (h : p ∈ ddel d k) : p ∈ d := (List.mem_filter.1 h).1
theorem mem_dput {d : Dir} {k : ByteArray} {v : Nat} {p : ByteArray × Nat} (h : p ∈ dput d k v) : p ∈ d ∨ p = (k, v) := by
  unfold dput at h
  split at h
  · obtain ⟨q, hq, rfl⟩ := List.mem_map.1 h
    split
    · exact .inr rfl
    · exact .inl hq
  · rcases List.mem_append.1 h with h | h
    · exact .inl h
    · exact .inr (by simpa using h)
theorem mem_doF {d : Dir} {c : Chg} {p : ByteArray × Nat} (h : p ∈ doF d c) : p ∈ d ∨ (p.1 = c.nm ∧ c.dst = some p.2) := by
  unfold doF at h
  have h1 : ∀ q : ByteArray × Nat, q ∈ (if c.src = ByteArray.empty then d else ddel d c.src) → q ∈ d := fun q hq => by
    split at hq
    · exact hq
    · exact mem_ddel hq
  simp only at h
  split at h
  · exact .inl (h1 _ (mem_ddel h))
  · rename_i v hv
    rcases mem_dput h with h | rfl
    · exact .inl (h1 _ h)
    · exact .inr ⟨rfl, hv⟩
theorem doAll_nodup : ∀ {l : List Chg} {d : Dir}, (d.map Prod.fst).Nodup → ((doAll d l).map Prod.fst).Nodup
  | [], _, h => h
  | c :: l, _, h => doAll_nodup (l := l) (doF_nodup h c)
theorem mem_doAll : ∀ {l : List Chg} {d : Dir} {p : ByteArray × Nat}, p ∈ doAll d l → p ∈ d ∨ ∃ c ∈ l, p.1 = c.nm ∧ c.dst = some p.2
  | [], _, _, h => .inl h
  | c :: l, d, p, h => by
    rcases mem_doAll (l := l) (d := doF d c) h with h | ⟨x, hx, h⟩
    · rcases mem_doF h with h | h
      · exact .inl h
      · exact .inr ⟨c, by simp, h⟩
    · exact .inr ⟨x, by simp [hx], h⟩
theorem doAll_snoc (d : Dir) (l : List Chg) (c : Chg) : doAll d (l ++ [c]) = doF (doAll d l) c := by
  unfold doAll; rw [List.foldl_append]; rfl
theorem FSt.Ok.change {st : FSt} (h : st.Ok) {c : Chg} (hn : nameR c.nm = true) (hd : ∀ p, c.dst = some p → (st.files p).isSome = true) : (chgF st c).Ok where
  room0 := h.room0
  room1 := h.room1
  seenN := doF_nodup h.seenN c
  safeN := h.safeN
  seenI := fun p hp => by
    rcases mem_doF hp with hp | ⟨h1, h2⟩
    · exact h.seenI p hp
    · exact ⟨hd _ h2, by rw [h1]; exact hn⟩
  safeI := h.safeI
  chgI := fun x hx => by
    rcases List.mem_append.1 hx with hx | hx
    · exact h.chgI x hx
    · simp at hx; subst hx; exact ⟨hn, hd⟩
  fil := h.fil
theorem putFil_some {f : Nat → Option Fil} {p q : Nat} {x : Fil} (h : (f q).isSome = true) : (putFil f p x q).isSome = true := by
  unfold putFil; split; rfl; exact h
theorem FSt.Ok.put {st : FSt} (h : st.Ok) {p : Nat} {x : Fil} (hx : x.safe ≤ x.b.length ∧ x.b.length ≤ 99000) : ({ st with files := putFil st.files p x } : FSt).Ok where
  room0 := h.room0
  room1 := h.room1
  seenN := h.seenN
  safeN := h.safeN
  seenI := fun q hq => ⟨putFil_some (h.seenI q hq).1, (h.seenI q hq).2⟩
  safeI := fun q hq => ⟨putFil_some (h.safeI q hq).1, (h.safeI q hq).2⟩
  chgI := fun c hc => ⟨(h.chgI c hc).1, fun q hq => putFil_some ((h.chgI c hc).2 q hq)⟩
  fil := fun q y hy => by
    simp only [putFil] at hy
    split at hy
    · injection hy with hy; subst hy; exact hx
    · exact h.fil q y hy
theorem FSt.Ok.tick {st : FSt} (h : st.Ok) : (tick st).Ok := ⟨h.room0, h.room1, h.seenN, h.safeN, h.seenI, h.safeI, h.chgI, h.fil⟩
theorem FSt.Ok.fall {st : FSt} (h : st.Ok) : ({ st with down := true } : FSt).Ok := ⟨h.room0, h.room1, h.seenN, h.safeN, h.seenI, h.safeI, h.chgI, h.fil⟩
theorem FSt.Ok.settle {st : FSt} (h : st.Ok) (n : Nat) : (settleF st n).Ok where
  room0 := h.room0
  room1 := h.room1
  seenN := h.seenN
  safeN := doAll_nodup h.safeN
  seenI := h.seenI
  safeI := fun p hp => by
    rcases mem_doAll hp with hp | ⟨c, hc, h1, h2⟩
    · exact h.safeI p hp
    · have := h.chgI c (List.mem_of_mem_take hc)
      exact ⟨this.2 _ h2, by rw [h1]; exact this.1⟩
  chgI := fun c hc => by simp [settleF] at hc
  fil := h.fil
/-- Few entries, few changes. -/
def FSt.few (st : FSt) (n : Nat) : Prop := st.seen.length ≤ n ∧ st.safe.length ≤ n ∧ st.chg.length ≤ n
theorem dput_length (d : Dir) (k : ByteArray) (v : Nat) : (dput d k v).length ≤ d.length + 1 := by
  unfold dput
  split
  · simp
  · simp
theorem ddel_length (d : Dir) (k : ByteArray) : (ddel d k).length ≤ d.length := List.length_filter_le _ _
theorem doF_length (d : Dir) (c : Chg) : (doF d c).length ≤ d.length + 1 := by
  unfold doF
  have h1 : (if c.src = ByteArray.empty then d else ddel d c.src).length ≤ d.length := by split; exact Nat.le_refl _; exact ddel_length _ _
  simp only
  split
  · exact Nat.le_trans (ddel_length _ _) (by omega)
  · exact Nat.le_trans (dput_length _ _ _) (by omega)
theorem sum_le {l : Dir} {f : Nat → Nat} {k : Nat} (h : ∀ p, f p ≤ k) : (l.map fun p => f p.2).sum ≤ l.length * k := by
  induction l with
  | nil => simp
  | cons a l ih =>
    have := h a.2
    simp only [List.map_cons, List.sum_cons, List.length_cons, Nat.succ_mul]
    omega
theorem lenF_le {st : FSt} (h : st.Ok) (p : Nat) : lenF st.files p ≤ 99000 := by
  unfold lenF
  split
  · rename_i x hx; exact (h.fil p x hx).2
  · omega
theorem usedF_le {st : FSt} (h : st.Ok) : usedF st ≤ st.seen.length * 99000 := sum_le (lenF_le h)
theorem len_le_sum {f : Nat → Nat} : ∀ {l : Dir} {n : ByteArray} {p : Nat}, (n, p) ∈ l → f p ≤ (l.map fun p => f p.2).sum
  | [], _, _, h => by simp at h
  | a :: l, n, p, h => by
    simp only [List.map_cons, List.sum_cons]
    rcases List.mem_cons.1 h with rfl | h
    · exact Nat.le_add_right _ _
    · have := len_le_sum (f := f) h; omega
theorem mem_seen {st : FSt} {n : ByteArray} {p : Nat} (h : findF st n = (0, some p)) : (n, p) ∈ st.seen := by
  unfold findF at h
  split at h
  · simp at h
  · split at h
    · split at h
      · simp at h
      · rename_i q hq
        simp at h; subst h
        exact mem_of_dget hq
    · simp at h
end Go.Proofs.Ytgehalfnpbjjcaa
