/- simfs, as plain functions: files by the blocks that hold them, two directories, the changes between them. -/
import Derived.Test.YtgehalfnpbjjcaaGreatMapP
import Derived.Sort.KeysCollected
namespace Go.Proofs.YtgehalfnpbjjcaaGreat
open Go Go.RowKit
/-- A file: its bytes, and how many of them are safe. -/
structure Fil where
  b : List UInt8
  safe : Nat
/-- A change of a directory. -/
structure Chg where
  nm : ByteArray
  src : ByteArray
  dst : Option Nat
/-- A file system. -/
structure FSt where
  room : Int
  files : Nat → Option Fil
  seen : List (ByteArray × Nat)
  safe : List (ByteArray × Nat)
  chg : List Chg
  left : Int
  armed : Bool
  down : Bool
  steps : Int
abbrev Dir := List (ByteArray × Nat)
/-- Which names are right. -/
def byteR (b : UInt8) : Bool := decide (33 ≤ b.toNat ∧ b.toNat ≤ 126 ∧ b.toNat ≠ 47)
def nameR (s : ByteArray) : Bool := decide (1 ≤ s.size ∧ s.size ≤ 40) && s.data.toList.all byteR
def putFil (f : Nat → Option Fil) (p : Nat) (x : Fil) : Nat → Option Fil := fun q => if q = p then some x else f q
/-- A change, done to a directory. -/
def doF (d : Dir) (c : Chg) : Dir :=
  let d1 := if c.src = ByteArray.empty then d else ddel d c.src
  match c.dst with
  | none => ddel d1 c.nm
  | some p => dput d1 c.nm p
def doAll (d : Dir) (l : List Chg) : Dir := l.foldl doF d
def isF (st : FSt) : Int := if st.down then 12 else 0
def namedF (st : FSt) (n : ByteArray) : Int := if st.down then 12 else if nameR n then 0 else 10
def findF (st : FSt) (n : ByteArray) : Int × Option Nat :=
  if st.down then (12, none) else if nameR n then (match dget st.seen n with | none => (5, none) | some p => (0, some p)) else (10, none)
/-- One step, if one is left. -/
def tick (st : FSt) : FSt := { st with left := wrap64 (st.left - 1), steps := wrap64 (st.steps + 1) }
def goF (st : FSt) (f : FSt → FSt) : FSt × Int := if st.armed ∧ st.left = 0 then ({ st with down := true }, 12) else (f (tick st), 0)
def chgF (st : FSt) (c : Chg) : FSt := { st with seen := doF st.seen c, chg := st.chg ++ [c] }
def createF (st : FSt) (n : ByteArray) (p : Nat) : FSt × Int :=
  if (findF st n).1 = 5 then goF st fun s => chgF { s with files := putFil s.files p ⟨[], 0⟩ } ⟨n, ByteArray.empty, some p⟩
  else (st, if (findF st n).1 = 0 then 6 else (findF st n).1)
def lenF (f : Nat → Option Fil) (p : Nat) : Nat := match f p with | some x => x.b.length | none => 0
def usedF (st : FSt) : Nat := (st.seen.map fun p => lenF st.files p.2).sum
def bytesF (st : FSt) (p : Nat) : List UInt8 := match st.files p with | some x => x.b | none => []
def appendF (st : FSt) (n : ByteArray) (b : List UInt8) : FSt × Int :=
  match findF st n with
  | (0, some p) => if st.room - usedF st < b.length then (st, 11) else goF st fun s => match s.files p with | some x => { s with files := putFil s.files p ⟨x.b ++ b, x.safe⟩ } | none => s
  | (f, _) => (st, f)
def readF (st : FSt) (n : ByteArray) : List UInt8 × Int :=
  match findF st n with
  | (0, some p) => (bytesF st p, 0)
  | (f, _) => ([], f)
def sizeF (st : FSt) (n : ByteArray) : Int × Int := (((readF st n).1.length : Nat), (readF st n).2)
def renameF (st : FSt) (a b : ByteArray) : FSt × Int :=
  if namedF st a ≠ 0 then (st, namedF st a)
  else if namedF st b ≠ 0 then (st, namedF st b)
  else match findF st a with
  | (0, some p) => goF st fun s => chgF s ⟨b, a, some p⟩
  | (f, _) => (st, f)
def removeF (st : FSt) (n : ByteArray) : FSt × Int :=
  if (findF st n).1 = 0 then goF st fun s => chgF s ⟨n, ByteArray.empty, none⟩ else (st, (findF st n).1)
def fsyncF (st : FSt) (n : ByteArray) : FSt × Int :=
  match findF st n with
  | (0, some p) => goF st fun s => match s.files p with | some x => { s with files := putFil s.files p ⟨x.b, x.b.length⟩ } | none => s
  | (f, _) => (st, f)
def settleF (st : FSt) (n : Nat) : FSt := { st with safe := doAll st.safe (st.chg.take n), chg := [] }
def syncF (st : FSt) : FSt × Int := if st.down then (st, 12) else goF st fun s => settleF s s.chg.length
def armF (st : FSt) (n : Int) : FSt × Int := if st.down then (st, 12) else if n < 0 then (st, 1) else ({ st with left := n, armed := true }, 0)
def flipF (st : FSt) (n : ByteArray) (i : Int) (x : UInt8) : FSt × Int :=
  match findF st n with
  | (0, some p) => if i < 0 ∨ (bytesF st p).length ≤ i then (st, 1) else
      (match st.files p with | some y => { st with files := putFil st.files p ⟨y.b.modify i.toNat (· ^^^ x), y.safe⟩ } | none => st, 0)
  | (f, _) => (st, f)
/-- What is well formed. -/
structure FSt.Ok (st : FSt) : Prop where
  room0 : 0 ≤ st.room
  room1 : st.room ≤ 99000
  seenN : (st.seen.map Prod.fst).Nodup
  safeN : (st.safe.map Prod.fst).Nodup
  seenI : ∀ p ∈ st.seen, (st.files p.2).isSome = true ∧ nameR p.1 = true
  safeI : ∀ p ∈ st.safe, (st.files p.2).isSome = true ∧ nameR p.1 = true
  chgI : ∀ c ∈ st.chg, nameR c.nm = true ∧ ∀ p, c.dst = some p → (st.files p).isSome = true
  fil : ∀ p x, st.files p = some x → x.safe ≤ x.b.length ∧ x.b.length ≤ 99000
theorem doF_nodup {d : Dir} (h : (d.map Prod.fst).Nodup) (c : Chg) : ((doF d c).map Prod.fst).Nodup := by
  unfold doF
  have h1 : ((if c.src = ByteArray.empty then d else ddel d c.src).map Prod.fst).Nodup := by split; exact h; exact ddel_nodup h _
  simp only
  split
  · exact ddel_nodup h1 _
  · exact dput_nodup h1 _ _
theorem mem_ddel {d : Dir} {k : ByteArray} {p : ByteArray × Nat} (h : p ∈ ddel d k) : p ∈ d := (List.mem_filter.1 h).1
theorem mem_dput {d : Dir} {k : ByteArray} {v : Nat} {p : ByteArray × Nat} (h : p ∈ dput d k v) : p ∈ d ∨ p = (k, v) := by
  unfold dput at h
  split at h
  · obtain ⟨q, hq, rfl⟩ := List.mem_map.1 h
    split
    · exact .inr rfl
    · exact .inl hq
  · rcases List.mem_append.1 h with h | h
    · exact .inl h
    · exact .inr (by simpa using h)
theorem mem_doF {d : Dir} {c : Chg} {p : ByteArray × Nat} (h : p ∈ doF d c) : p ∈ d ∨ (p.1 = c.nm ∧ c.dst = some p.2) := by
  unfold doF at h
  have h1 : ∀ q : ByteArray × Nat, q ∈ (if c.src = ByteArray.empty then d else ddel d c.src) → q ∈ d := fun q hq => by
    split at hq
    · exact hq
    · exact mem_ddel hq
  simp only at h
  split at h
  · exact .inl (h1 _ (mem_ddel h))
  · rename_i v hv
    rcases mem_dput h with h | rfl
    · exact .inl (h1 _ h)
    · exact .inr ⟨rfl, hv⟩
theorem doAll_nodup : ∀ {l : List Chg} {d : Dir}, (d.map Prod.fst).Nodup → ((doAll d l).map Prod.fst).Nodup
  | [], _, h => h
  | c :: l, _, h => doAll_nodup (l := l) (doF_nodup h c)
theorem mem_doAll : ∀ {l : List Chg} {d : Dir} {p : ByteArray × Nat}, p ∈ doAll d l → p ∈ d ∨ ∃ c ∈ l, p.1 = c.nm ∧ c.dst = some p.2
  | [], _, _, h => .inl h
  | c :: l, d, p, h => by
    rcases mem_doAll (l := l) (d := doF d c) h with h | ⟨x, hx, h⟩
    · rcases mem_doF h with h | h
      · exact .inl h
      · exact .inr ⟨c, by simp, h⟩
    · exact .inr ⟨x, by simp [hx], h⟩
theorem doAll_snoc (d : Dir) (l : List Chg) (c : Chg) : doAll d (l ++ [c]) = doF (doAll d l) c := by
  unfold doAll; rw [List.foldl_append]; rfl
theorem FSt.Ok.change {st : FSt} (h : st.Ok) {c : Chg} (hn : nameR c.nm = true) (hd : ∀ p, c.dst = some p → (st.files p).isSome = true) : (chgF st c).Ok where
  room0 := h.room0
  room1 := h.room1
  seenN := doF_nodup h.seenN c
  safeN := h.safeN
  seenI := fun p hp => by
    rcases mem_doF hp with hp | ⟨h1, h2⟩
    · exact h.seenI p hp
    · exact ⟨hd _ h2, by rw [h1]; exact hn⟩
  safeI := h.safeI
  chgI := fun x hx => by
    rcases List.mem_append.1 hx with hx | hx
    · exact h.chgI x hx
    · simp at hx; subst hx; exact ⟨hn, hd⟩
  fil := h.fil
theorem putFil_some {f : Nat → Option Fil} {p q : Nat} {x : Fil} (h : (f q).isSome = true) : (putFil f p x q).isSome = true := by
  unfold putFil; split; rfl; exact h
theorem FSt.Ok.put {st : FSt} (h : st.Ok) {p : Nat} {x : Fil} (hx : x.safe ≤ x.b.length ∧ x.b.length ≤ 99000) : ({ st with files := putFil st.files p x } : FSt).Ok where
  room0 := h.room0
  room1 := h.room1
  seenN := h.seenN
  safeN := h.safeN
  seenI := fun q hq => ⟨putFil_some (h.seenI q hq).1, (h.seenI q hq).2⟩
  safeI := fun q hq => ⟨putFil_some (h.safeI q hq).1, (h.safeI q hq).2⟩
  chgI := fun c hc => ⟨(h.chgI c hc).1, fun q hq => putFil_some ((h.chgI c hc).2 q hq)⟩
  fil := fun q y hy => by
    simp only [putFil] at hy
    split at hy
    · injection hy with hy; subst hy; exact hx
    · exact h.fil q y hy
theorem FSt.Ok.tick {st : FSt} (h : st.Ok) : (tick st).Ok := ⟨h.room0, h.room1, h.seenN, h.safeN, h.seenI, h.safeI, h.chgI, h.fil⟩
theorem FSt.Ok.fall {st : FSt} (h : st.Ok) : ({ st with down := true } : FSt).Ok := ⟨h.room0, h.room1, h.seenN, h.safeN, h.seenI, h.safeI, h.chgI, h.fil⟩
theorem FSt.Ok.settle {st : FSt} (h : st.Ok) (n : Nat) : (settleF st n).Ok where
  room0 := h.room0
  room1 := h.room1
  seenN := h.seenN
  safeN := doAll_nodup h.safeN
  seenI := h.seenI
  safeI := fun p hp => by
    rcases mem_doAll hp with hp | ⟨c, hc, h1, h2⟩
    · exact h.safeI p hp
    · have := h.chgI c (List.mem_of_mem_take hc)
      exact ⟨this.2 _ h2, by rw [h1]; exact this.1⟩
  chgI := fun c hc => by simp [settleF] at hc
  fil := h.fil
/-- Few entries, few changes. -/
def FSt.few (st : FSt) (n : Nat) : Prop := st.seen.length ≤ n ∧ st.safe.length ≤ n ∧ st.chg.length ≤ n
theorem dput_length (d : Dir) (k : ByteArray) (v : Nat) : (dput d k v).length ≤ d.length + 1 := by
  unfold dput
  split
  · simp
  · simp
theorem ddel_length (d : Dir) (k : ByteArray) : (ddel d k).length ≤ d.length := List.length_filter_le _ _
theorem doF_length (d : Dir) (c : Chg) : (doF d c).length ≤ d.length + 1 := by
  unfold doF
  have h1 : (if c.src = ByteArray.empty then d else ddel d c.src).length ≤ d.length := by split; exact Nat.le_refl _; exact ddel_length _ _
  simp only
  split
  · exact Nat.le_trans (ddel_length _ _) (by omega)
  · exact Nat.le_trans (dput_length _ _ _) (by omega)
theorem sum_le {l : Dir} {f : Nat → Nat} {k : Nat} (h : ∀ p, f p ≤ k) : (l.map fun p => f p.2).sum ≤ l.length * k := by
  induction l with
  | nil => simp
  | cons a l ih =>
    have := h a.2
    simp only [List.map_cons, List.sum_cons, List.length_cons, Nat.succ_mul]
    omega
theorem lenF_le {st : FSt} (h : st.Ok) (p : Nat) : lenF st.files p ≤ 99000 := by
  unfold lenF
  split
  · rename_i x hx; exact (h.fil p x hx).2
  · omega
theorem usedF_le {st : FSt} (h : st.Ok) : usedF st ≤ st.seen.length * 99000 := sum_le (lenF_le h)
theorem len_le_sum {f : Nat → Nat} : ∀ {l : Dir} {n : ByteArray} {p : Nat}, (n, p) ∈ l → f p ≤ (l.map fun p => f p.2).sum
  | [], _, _, h => by simp at h
  | a :: l, n, p, h => by
    simp only [List.map_cons, List.sum_cons]
    rcases List.mem_cons.1 h with rfl | h
    · exact Nat.le_add_right _ _
    · have := len_le_sum (f := f) h; omega
theorem mem_seen {st : FSt} {n : ByteArray} {p : Nat} (h : findF st n = (0, some p)) : (n, p) ∈ st.seen := by
  unfold findF at h
  split at h
  · simp at h
  · split at h
    · split at h
      · simp at h
      · rename_i q hq
        simp at h; subst h
        exact mem_of_dget hq
    · simp at h
end Go.Proofs.YtgehalfnpbjjcaaGreat
/- simfs, as plain functions: what is listed, what survives, copies. -/
namespace Go.Proofs.YtgehalfnpbjjcaaGreat
open Go Go.RowKit
def sortN (l : List ByteArray) : List ByteArray := ((l.map (·.data.toList)).mergeSort leB).map fun b => ⟨b.toArray⟩
theorem sortN_perm {l l' : List ByteArray} (h : l.Perm l') : sortN l = sortN l' := by
  unfold sortN
  rw [mergeSort_of_perm (h.map _)]
theorem bytes_back (s : ByteArray) : (⟨s.data.toList.toArray⟩ : ByteArray) = s := by cases s; rfl
theorem perm_sortN (l : List ByteArray) : (sortN l).Perm l := by
  unfold sortN
  have h1 := (List.mergeSort_perm (l.map (·.data.toList)) leB).map (fun b : List UInt8 => (⟨b.toArray⟩ : ByteArray))
  refine h1.trans ?_
  rw [List.map_map]
  have : ((fun b : List UInt8 => (⟨b.toArray⟩ : ByteArray)) ∘ fun s : ByteArray => s.data.toList) = id := by funext s; exact bytes_back s
  rw [this, List.map_id]
theorem sortN_length (l : List ByteArray) : (sortN l).length = l.length := (perm_sortN l).length_eq
def listF (st : FSt) : List ByteArray := if st.down then [] else sortN (st.seen.map Prod.fst)
/-- What survives of a file. -/
def cutN (cuts : List Int) (i : Nat) (x : Fil) : Nat := x.safe + (match cuts[i]? with | some c => (min (max c 0) ((x.b.length : Int) - (x.safe : Int))).toNat | none => 0)
def cutF (cuts : List Int) (i : Nat) (x : Fil) : Fil := ⟨x.b.take (cutN cuts i x), cutN cuts i x⟩
def upGo (cuts : List Int) : List Nat → Nat → List Nat → (Nat → Option Fil) → (Nat → Option Fil)
  | [], _, _, fs => fs
  | p :: l, i, done, fs => if p ∈ done then upGo cuts l (i + 1) done fs else upGo cuts l (i + 1) (p :: done) (match fs p with | some x => putFil fs p (cutF cuts i x) | none => fs)
def ptrsF (d : Dir) : List Nat := (sortN (d.map Prod.fst)).map fun n => (dget d n).getD 0
def upN (st : FSt) (n : Int) : Nat := (min (max n 0) (st.chg.length : Int)).toNat
def upF (st : FSt) (n : Int) (cuts : List Int) : FSt :=
  { settleF st (upN st n) with files := upGo cuts (ptrsF (settleF st (upN st n)).safe) 0 [] st.files, seen := (settleF st (upN st n)).safe, armed := false, down := false }
theorem cutN_le {cuts : List Int} {i : Nat} {x : Fil} (h : x.safe ≤ x.b.length) : cutN cuts i x ≤ x.b.length := by
  unfold cutN
  split
  · rename_i c _
    have h1 := Int.min_le_right (max c 0) ((x.b.length : Int) - (x.safe : Int))
    have h2 : (min (max c 0) ((x.b.length : Int) - (x.safe : Int))).toNat ≤ x.b.length - x.safe := Int.toNat_le.2 (by omega)
    exact Nat.le_trans (Nat.add_le_add_left h2 _) (by omega)
  · omega
/-- What files are always. -/
def FilsOk (f : Nat → Option Fil) : Prop := ∀ p x, f p = some x → x.safe ≤ x.b.length ∧ x.b.length ≤ 99000
theorem putFil_ok {f : Nat → Option Fil} (h : FilsOk f) {p : Nat} {x : Fil} (hx : x.safe ≤ x.b.length ∧ x.b.length ≤ 99000) : FilsOk (putFil f p x) := fun q y hy => by
  simp only [putFil] at hy
  split at hy
  · injection hy with hy; subst hy; exact hx
  · exact h q y hy
theorem upGo_ok {cuts : List Int} : ∀ {l : List Nat} {i : Nat} {done : List Nat} {f : Nat → Option Fil}, FilsOk f → FilsOk (upGo cuts l i done f) ∧ ∀ p, (f p).isSome = (upGo cuts l i done f p).isSome
  | [], _, _, _, h => ⟨h, fun _ => rfl⟩
  | p :: l, i, done, f, h => by
    unfold upGo
    split
    · exact upGo_ok h
    · split
      · rename_i x hx
        have hc := h p x hx
        have hn := cutN_le (cuts := cuts) (i := i) hc.1
        have h1 : FilsOk (putFil f p (cutF cuts i x)) := putFil_ok h (by
          unfold cutF
          simp only [List.length_take]
          omega)
        obtain ⟨h2, h3⟩ := upGo_ok (cuts := cuts) (l := l) (i := i + 1) (done := p :: done) h1
        refine ⟨h2, fun q => ?_⟩
        rw [← h3 q]
        unfold putFil
        split
        · rename_i e; rw [e, hx]; rfl
        · rfl
      · exact upGo_ok h
theorem FSt.Ok.up {st : FSt} (h : st.Ok) (n : Int) (cuts : List Int) : (upF st n cuts).Ok := by
  have hs := h.settle (upN st n)
  obtain ⟨h1, h2⟩ := upGo_ok (cuts := cuts) (l := ptrsF (settleF st (upN st n)).safe) (i := 0) (done := []) (f := st.files) h.fil
  exact {
    room0 := h.room0
    room1 := h.room1
    seenN := hs.safeN
    safeN := hs.safeN
    seenI := fun p hp => by
      have := hs.safeI p hp
      exact ⟨by show (upGo cuts _ 0 [] st.files p.2).isSome = true; rw [← h2]; exact this.1, this.2⟩
    safeI := fun p hp => by
      have := hs.safeI p hp
      exact ⟨by show (upGo cuts _ 0 [] st.files p.2).isSome = true; rw [← h2]; exact this.1, this.2⟩
    chgI := fun c hc => by simp [upF, settleF] at hc
    fil := h1 }
/-- What a file system is once it is made. -/
def newF (room : Int) : FSt := ⟨room, fun _ => none, [], [], [], 0, false, false, 0⟩
theorem newF_ok {room : Int} (h0 : 0 ≤ room) (h1 : room ≤ 99000) : (newF room).Ok :=
  ⟨h0, h1, by simp [newF], by simp [newF], by simp [newF], by simp [newF], by simp [newF], fun p x h => by simp [newF] at h⟩
/-- A copy: its files have blocks of their own. -/
structure CopyOf (st st' : FSt) (φ : Nat → Nat) : Prop where
  room : st'.room = st.room
  left : st'.left = st.left
  armed : st'.armed = st.armed
  down : st'.down = st.down
  steps : st'.steps = st.steps
  seen : st'.seen.Perm (st.seen.map fun p => (p.1, φ p.2))
  safe : st'.safe.Perm (st.safe.map fun p => (p.1, φ p.2))
  chg : st'.chg = st.chg.map fun c => ⟨c.nm, c.src, c.dst.map φ⟩
  fil : ∀ p, (∃ n, (n, p) ∈ st.seen ∨ (n, p) ∈ st.safe) ∨ (∃ c ∈ st.chg, c.dst = some p) → st'.files (φ p) = st.files p
  inj : ∀ p q, ((∃ n, (n, p) ∈ st.seen ∨ (n, p) ∈ st.safe) ∨ (∃ c ∈ st.chg, c.dst = some p)) → ((∃ n, (n, q) ∈ st.seen ∨ (n, q) ∈ st.safe) ∨ (∃ c ∈ st.chg, c.dst = some q)) → φ p = φ q → p = q
end Go.Proofs.YtgehalfnpbjjcaaGreat
/- simfs: the rounds of Up, as plain functions. -/
namespace Go.Proofs.YtgehalfnpbjjcaaGreat
open Go Go.RowKit
theorem drop_at {α : Type} {l : List α} {i : Nat} {x : α} (h : l[i]? = some x) : l.drop i = x :: l.drop (i + 1) := by
  obtain ⟨hi, rfl⟩ := List.getElem?_eq_some_iff.1 h
  exact List.drop_eq_getElem_cons hi
theorem upGo_in {cuts : List Int} {l : List Nat} {i p : Nat} {done : List Nat} {f : Nat → Option Fil} (h : l[i]? = some p) (hp : p ∈ done) : upGo cuts (l.drop i) i done f = upGo cuts (l.drop (i + 1)) (i + 1) done f := by
  rw [drop_at h]
  show (if p ∈ done then _ else _) = _
  rw [if_pos hp]
theorem upGo_new {cuts : List Int} {l : List Nat} {i p : Nat} {done : List Nat} {f : Nat → Option Fil} {x : Fil} (h : l[i]? = some p) (hp : p ∉ done) (hx : f p = some x) : upGo cuts (l.drop i) i done f = upGo cuts (l.drop (i + 1)) (i + 1) (p :: done) (putFil f p (cutF cuts i x)) := by
  rw [drop_at h]
  show (if p ∈ done then _ else upGo cuts _ _ _ (match f p with | some x => putFil f p (cutF cuts i x) | none => f)) = _
  rw [if_neg hp, hx]
theorem upGo_end {cuts : List Int} {l : List Nat} {i : Nat} {done : List Nat} {f : Nat → Option Fil} (h : l.length ≤ i) : upGo cuts (l.drop i) i done f = f := by
  rw [List.drop_eq_nil_of_le h]
  rfl
theorem name_at {d : Dir} (hn : (d.map Prod.fst).Nodup) {i : Nat} {n : ByteArray} (h : (sortN (d.map Prod.fst))[i]? = some n) : ∃ p, dget d n = some p ∧ (n, p) ∈ d ∧ (ptrsF d)[i]? = some p := by
  have h1 : n ∈ d.map Prod.fst := (perm_sortN _).mem_iff.1 (List.mem_of_getElem? h)
  obtain ⟨⟨n', p⟩, h2, rfl⟩ := List.mem_map.1 h1
  refine ⟨p, dget_mem hn h2, h2, ?_⟩
  unfold ptrsF
  rw [List.getElem?_map, h]
  simp only [Option.map_some, Option.some.injEq]
  rw [dget_mem hn h2]
  rfl
theorem ptrsF_length (d : Dir) : (ptrsF d).length = d.length := by
  unfold ptrsF
  rw [List.length_map, sortN_length, List.length_map]
/-- The files in hand, and what is done. -/
def DoneF (dn : List (Nat × Bool)) (done : List Nat) : Prop := ∀ p, dget dn p = if p ∈ done then some true else none
theorem DoneF.put {dn : List (Nat × Bool)} {done : List Nat} (h : DoneF dn done) (hn : (dn.map Prod.fst).Nodup) (p : Nat) : DoneF (dput dn p true) (p :: done) := fun q => by
  by_cases e : q = p
  · subst e
    rw [dget_put_self hn, if_pos (by simp)]
  · rw [dget_put_ne hn e, h q]
    simp [e]
theorem DoneF.nil : DoneF [] [] := fun p => by simp [dget]
theorem cutF_ok {cuts : List Int} {i : Nat} {x : Fil} (h : x.safe ≤ x.b.length ∧ x.b.length ≤ 99000) : (cutF cuts i x).safe ≤ (cutF cuts i x).b.length ∧ (cutF cuts i x).b.length ≤ 99000 := by
  have hn := cutN_le (cuts := cuts) (i := i) h.1
  unfold cutF
  simp only [List.length_take]
  omega
end Go.Proofs.YtgehalfnpbjjcaaGreat
/- simfs: the chapter's example, in plain functions. -/
namespace Go.Proofs.YtgehalfnpbjjcaaGreat
open Go Go.RowKit
def nA : ByteArray := ⟨#[97]⟩
/-- One file, seen but not safe. -/
structure OneF (st : FSt) (p : Nat) (x : Fil) : Prop where
  down : st.down = false
  armed : st.armed = false
  room : st.room = 100
  seen : st.seen = [(nA, p)]
  safe : st.safe = []
  chg : st.chg = [⟨nA, ByteArray.empty, some p⟩]
  fil : st.files p = some x
/-- One file, safe. -/
structure TwoF (st : FSt) (p : Nat) (x : Fil) : Prop where
  down : st.down = false
  safe : st.safe = [(nA, p)]
  chg : st.chg = []
  fil : st.files p = some x
theorem nameR_nA : nameR nA = true := by decide
theorem goF_free {st : FSt} (h : st.armed = false) (f : FSt → FSt) : goF st f = (f (tick st), 0) := by
  unfold goF
  rw [if_neg (by rw [h]; simp)]
theorem one_create (p : Nat) : OneF (createF (newF 100) nA p).1 p ⟨[], 0⟩ ∧ (createF (newF 100) nA p).2 = 0 := by
  have h5 : (findF (newF 100) nA).1 = 5 := by rfl
  unfold createF
  rw [if_pos h5, goF_free rfl]
  refine ⟨⟨rfl, rfl, rfl, rfl, rfl, rfl, ?_⟩, rfl⟩
  show putFil _ p _ p = _
  unfold putFil
  rw [if_pos rfl]
theorem one_find {st : FSt} {p : Nat} {x : Fil} (h : OneF st p x) : findF st nA = (0, some p) := by
  have h1 : dget st.seen nA = some p := by rw [h.seen]; rfl
  unfold findF
  rw [h.down, nameR_nA, h1]
  rfl
theorem one_append {st : FSt} {p : Nat} (h : OneF st p ⟨[], 0⟩) : OneF (appendF st nA [120]).1 p ⟨[120], 0⟩ ∧ (appendF st nA [120]).2 = 0 := by
  have hu : usedF st = 0 := by
    unfold usedF lenF
    rw [h.seen]
    simp [h.fil]
  unfold appendF
  rw [one_find h]
  simp only
  rw [if_neg (by rw [hu, h.room]; decide), goF_free h.armed]
  have hf : (tick st).files p = some ⟨[], 0⟩ := h.fil
  rw [hf]
  refine ⟨⟨h.down, h.armed, h.room, h.seen, h.safe, h.chg, ?_⟩, rfl⟩
  show putFil _ p _ p = _
  unfold putFil
  rw [if_pos rfl]
  rfl
theorem one_fsync {st : FSt} {p : Nat} (h : OneF st p ⟨[120], 0⟩) : OneF (fsyncF st nA).1 p ⟨[120], 1⟩ ∧ (fsyncF st nA).2 = 0 := by
  unfold fsyncF
  rw [one_find h]
  simp only
  rw [goF_free h.armed]
  have hf : (tick st).files p = some ⟨[120], 0⟩ := h.fil
  rw [hf]
  refine ⟨⟨h.down, h.armed, h.room, h.seen, h.safe, h.chg, ?_⟩, rfl⟩
  show putFil _ p _ p = _
  unfold putFil
  rw [if_pos rfl]
  rfl
theorem one_copy {st st' : FSt} {p : Nat} {x : Fil} {φ : Nat → Nat} (h : OneF st p x) (hc : CopyOf st st' φ) : OneF st' (φ p) x where
  down := hc.down.trans h.down
  armed := hc.armed.trans h.armed
  room := hc.room.trans h.room
  seen := by
    have h1 := hc.seen
    rw [h.seen] at h1
    exact List.perm_singleton.1 h1
  safe := by
    have h1 := hc.safe
    rw [h.safe] at h1
    exact List.perm_nil.1 h1
  chg := by
    rw [hc.chg, h.chg]
    rfl
  fil := by
    rw [hc.fil p (.inl ⟨nA, .inl (by rw [h.seen]; simp)⟩)]
    exact h.fil
theorem one_sync {st : FSt} {p : Nat} {x : Fil} (h : OneF st p x) : TwoF (syncF st).1 p x := by
  unfold syncF
  rw [h.down]
  simp only [Bool.false_eq_true, if_false]
  rw [goF_free h.armed]
  refine ⟨h.down, ?_, rfl, h.fil⟩
  show doAll st.safe (st.chg.take st.chg.length) = _
  rw [List.take_length, h.safe, h.chg]
  rfl
theorem upN_zero (st : FSt) : upN st 0 = 0 := by unfold upN; omega
theorem sortN_one (x : ByteArray) : sortN [x] = [x] := by
  have h := (perm_sortN [x])
  exact List.perm_singleton.1 h
theorem two_up {st : FSt} {p : Nat} (h : TwoF st p ⟨[120], 1⟩) : readF (upF st 0 []) nA = ([120], 0) := by
  have hs : (settleF st (upN st 0)).safe = [(nA, p)] := by
    rw [upN_zero]
    show doAll st.safe (st.chg.take 0) = _
    rw [List.take_zero]
    exact h.safe
  have hp : ptrsF [(nA, p)] = [p] := by
    unfold ptrsF
    rw [show ([(nA, p)].map Prod.fst) = [nA] from rfl, sortN_one]
    rfl
  have hf : findF (upF st 0 []) nA = (0, some p) := by
    have h1 : dget (upF st 0 []).seen nA = some p := by
      show dget (settleF st (upN st 0)).safe nA = some p
      rw [hs]
      rfl
    unfold findF
    rw [h1, nameR_nA]
    rfl
  unfold readF
  rw [hf]
  simp only
  unfold bytesF
  have hfi : (upF st 0 []).files p = some ⟨[120], 1⟩ := by
    show upGo [] (ptrsF (settleF st (upN st 0)).safe) 0 [] st.files p = _
    rw [hs, hp]
    show (match st.files p with | some x => putFil st.files p (cutF [] 0 x) | none => st.files) p = _
    rw [h.fil]
    simp only
    unfold putFil
    rw [if_pos rfl]
    rfl
  rw [hfi]
theorem one_up {st : FSt} {p : Nat} {x : Fil} (h : OneF st p x) : (listF (upF st 0 [])).length = 0 ∧ (upF st 0 []).seen = [] := by
  have hs : (settleF st (upN st 0)).safe = [] := by
    rw [upN_zero]
    show doAll st.safe (st.chg.take 0) = _
    rw [List.take_zero]
    exact h.safe
  have h1 : (upF st 0 []).seen = [] := hs
  refine ⟨?_, h1⟩
  unfold listF
  rw [show (upF st 0 []).down = false from rfl, h1]
  simp [sortN_length]
end Go.Proofs.YtgehalfnpbjjcaaGreat
