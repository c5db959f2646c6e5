/- hayloftref06, as plain functions. -/
import Derived.Test.YtgehalfnpbjjcaaGreatAlivePure
import Derived.Test.YtgehalfnpbjjcaaGreatRow
namespace Go.Proofs.YtgehalfnpbjjcaaGreat
open Go Go.RowKit
structure RFil where
  b : List UInt8
  safe : Int
structure RChg where
  kind : Int
  a : ByteArray
  b : ByteArray
  which : Int
abbrev RDir := List (ByteArray × Int)
structure RSt where
  room : Int
  files : List RFil
  seen : RDir
  safe : RDir
  chg : List RChg
  armed : Int
  down : Bool
  count : Int
def bless (a b : ByteArray) : Bool := decide (a.data.toList < b.data.toList)
def rfind (l : RDir) (n : ByteArray) : Int := match dget l n with | some i => i | none => -1
/-- The entries that are put out, and whether the name is in. -/
def rputGo (n : ByteArray) (f : Int) : RDir → Bool → RDir
  | [], true => []
  | [], false => [(n, f)]
  | p :: l, true => (if p.1 = n then [] else [p]) ++ rputGo n f l true
  | p :: l, false => if bless p.1 n then (if p.1 = n then [] else [p]) ++ rputGo n f l false else (n, f) :: ((if p.1 = n then [] else [p]) ++ rputGo n f l true)
def rput (l : RDir) (n : ByteArray) (f : Int) : RDir := rputGo n f l (decide (f < 0))
def rapply (l : RDir) (c : RChg) : RDir := if c.kind = 1 then rput l c.a c.which else if c.kind = 2 then rput l c.a (-1) else rput (rput l c.a (-1)) c.b c.which
def rahead (st : RSt) (n : ByteArray) : Int := if st.down then 12 else if nameR n then 0 else 10
def rthere (st : RSt) (n : ByteArray) : Int := if rahead st n ≠ 0 then rahead st n else if rfind st.seen n < 0 then 5 else 0
def rstepF (st : RSt) (f : RSt → RSt) : RSt × Int := if st.armed = 0 then ({ st with down := true }, 12) else (f { st with armed := if st.armed > 0 then wrap64 (st.armed - 1) else st.armed, count := wrap64 (st.count + 1) }, 0)
def rchange (st : RSt) (c : RChg) : RSt := { st with seen := rapply st.seen c, chg := st.chg ++ [c] }
def rcreate (st : RSt) (n : ByteArray) : RSt × Int :=
  if rahead st n ≠ 0 then (st, rahead st n) else if 0 ≤ rfind st.seen n then (st, 6)
  else rstepF st fun s => rchange { s with files := s.files ++ [⟨[], 0⟩] } ⟨1, n, ByteArray.empty, (s.files.length : Int)⟩
def rlen (st : RSt) (i : Int) : Nat := match st.files[i.toNat]? with | some x => x.b.length | none => 0
def rused (st : RSt) : Nat := (st.seen.map fun p => rlen st p.2).sum
def rset (l : List RFil) (i : Int) (f : RFil → RFil) : List RFil := l.modify i.toNat f
def rappend (st : RSt) (n : ByteArray) (b : List UInt8) : RSt × Int :=
  if rthere st n ≠ 0 then (st, rthere st n) else if st.room - rused st < b.length then (st, 11)
  else rstepF st fun s => { s with files := rset s.files (rfind s.seen n) fun x => ⟨x.b ++ b, x.safe⟩ }
def rread (st : RSt) (n : ByteArray) : List UInt8 × Int :=
  if rthere st n ≠ 0 then ([], rthere st n) else ((match st.files[(rfind st.seen n).toNat]? with | some x => x.b | none => []), 0)
def rrename (st : RSt) (a b : ByteArray) : RSt × Int :=
  if rahead st a ≠ 0 then (st, rahead st a) else if rahead st b ≠ 0 then (st, rahead st b) else if rthere st a ≠ 0 then (st, rthere st a)
  else rstepF st fun s => rchange s ⟨3, a, b, rfind s.seen a⟩
def rremove (st : RSt) (n : ByteArray) : RSt × Int := if rthere st n ≠ 0 then (st, rthere st n) else rstepF st fun s => rchange s ⟨2, n, ByteArray.empty, 0⟩
def rlist (st : RSt) : List ByteArray := if st.down then [] else st.seen.map Prod.fst
def rfsync (st : RSt) (n : ByteArray) : RSt × Int :=
  if rthere st n ≠ 0 then (st, rthere st n) else rstepF st fun s => { s with files := rset s.files (rfind s.seen n) fun x => ⟨x.b, x.b.length⟩ }
def rsync (st : RSt) : RSt × Int := if st.down then (st, 12) else rstepF st fun s => { s with safe := s.seen, chg := [] }
def rarm (st : RSt) (n : Int) : RSt × Int := if st.down then (st, 12) else if n < 0 then (st, 1) else ({ st with armed := n }, 0)
end Go.Proofs.YtgehalfnpbjjcaaGreat
/- hayloftref06: its lists, as plain functions: what their loops do. -/
namespace Go.Proofs.YtgehalfnpbjjcaaGreat
open Go Go.RowKit
theorem flat_at {α : Type} {f : α → List Value} {k : Nat} (hf : ∀ a, (f a).length = k) : ∀ {l : List α} {i : Nat} {c : α}, l[i]? = some c → ∀ j, j < k → (l.flatMap f)[i * k + j]? = (f c)[j]?
  | [], _, _, h, _, _ => by simp at h
  | a :: l, 0, c, h, j, hj => by
    simp only [List.getElem?_cons_zero, Option.some.injEq] at h
    subst h
    rw [List.flatMap_cons, Nat.zero_mul, Nat.zero_add, List.getElem?_append_left (by rw [hf]; exact hj)]
  | a :: l, i + 1, c, h, j, hj => by
    have h' : l[i]? = some c := by simpa using h
    rw [List.flatMap_cons, List.getElem?_append_right (by rw [hf, Nat.succ_mul]; omega), hf]
    rw [show (i + 1) * k + j - k = i * k + j by rw [Nat.succ_mul]; omega]
    exact flat_at hf h' j hj
theorem flat_length {α : Type} {f : α → List Value} {k : Nat} (hf : ∀ a, (f a).length = k) (l : List α) : (l.flatMap f).length = l.length * k := by
  induction l with
  | nil => simp
  | cons a l ih => rw [List.flatMap_cons, List.length_append, ih, hf, List.length_cons, Nat.succ_mul]; omega
/-- The cells of one element of a row. -/
theorem Row.elem {α : Type} {f : α → List Value} {k : Nat} (hf : ∀ a, (f a).length = k) (hk0 : 0 < k) {S : Nat → Prop} {w : World} {a : Option Addr} {n c : Nat} {l : List α} (h : Row S w (.slice a n c) n k (l.flatMap f)) {i : Nat} {x : α} (hx : l[i]? = some x) :
    ∃ b off, a = some ⟨b, off, none⟩ ∧ b < w.heap.size ∧ ¬ S b ∧ n ≤ c ∧ c ≤ maxLen ∧ ∀ j y, (f x)[j]? = some y → w.cell? ⟨b, off + (i * k + j), none⟩ = some y := by
  obtain ⟨h0, a', c', h1, h2, _, h4⟩ := h
  injection h1 with e1 _ e3
  subst e1 e3
  have hi := (List.getElem?_eq_some_iff.1 hx).1
  rcases h4 with h4 | ⟨b, off, e, hb, hs, h4⟩
  · subst h4
    rw [flat_length hf, Nat.zero_mul] at h0
    rcases Nat.mul_eq_zero.1 h0 with h0 | h0 <;> omega
  · refine ⟨b, off, e, hb, hs, h2.1, h2.2.2, fun j y hy => ?_⟩
    have hj : j < k := by have := (List.getElem?_eq_some_iff.1 hy).1; rwa [hf] at this
    exact h4 _ y ((flat_at hf hx j hj).trans hy)
def rentC (p : ByteArray × Int) : List Value := [.string p.1, .int .i64 p.2]
def rchgC (c : RChg) : List Value := [.int .i64 c.kind, .string c.a, .string c.b, .int .i64 c.which]
def rfilC (p : Value × RFil) : List Value := [p.1, .int .i64 p.2.safe]
theorem rentC_len (p : ByteArray × Int) : (rentC p).length = 2 := rfl
theorem rchgC_len (c : RChg) : (rchgC c).length = 4 := rfl
theorem rfilC_len (p : Value × RFil) : (rfilC p).length = 2 := rfl
/- find -/
theorem rfind_nil (n : ByteArray) : rfind [] n = -1 := rfl
theorem rfind_cons (p : ByteArray × Int) (l : RDir) (n : ByteArray) : rfind (p :: l) n = if p.1 = n then p.2 else rfind l n := by
  unfold rfind dget
  rw [List.find?_cons]
  by_cases h : p.1 = n
  · simp [h]
  · simp [h]
theorem rfind_drop {l : RDir} {i : Nat} {p : ByteArray × Int} {n : ByteArray} (h : l[i]? = some p) : rfind (l.drop i) n = if p.1 = n then p.2 else rfind (l.drop (i + 1)) n := by
  obtain ⟨hi, rfl⟩ := List.getElem?_eq_some_iff.1 h
  rw [List.drop_eq_getElem_cons hi, rfind_cons]
/- Less -/
theorem bless_drop {a b : List UInt8} {i : Nat} (ha : i < a.length) (hb : i < b.length) : (a.drop i < b.drop i) ↔ (a[i] < b[i] ∨ a[i] = b[i] ∧ a.drop (i + 1) < b.drop (i + 1)) := by
  rw [List.drop_eq_getElem_cons ha, List.drop_eq_getElem_cons hb, List.cons_lt_cons_iff]
theorem bless_end {a b : List UInt8} {i : Nat} (ha : i ≤ a.length) (hb : i ≤ b.length) (h : ¬ (i < a.length ∧ i < b.length)) : (a.drop i < b.drop i) ↔ a.length < b.length := by
  by_cases h1 : i < a.length
  · have h2 : i = b.length := by omega
    rw [h2, List.drop_length]
    constructor
    · intro h3; exact absurd h3 (List.not_lt_nil _)
    · intro h3; omega
  · have h2 : i = a.length := by omega
    rw [h2, List.drop_length]
    by_cases h3 : a.length < b.length
    · rw [List.drop_eq_getElem_cons h3]
      exact ⟨fun _ => h3, fun _ => List.nil_lt_cons _ _⟩
    · rw [List.drop_eq_nil_of_le (by omega)]
      constructor
      · intro h4; exact absurd h4 (List.not_lt_nil _)
      · intro h4; omega
/- put -/
def keepE (p : ByteArray × Int) (n : ByteArray) : RDir := if p.1 = n then [] else [p]
theorem rputGo_true {l : RDir} {i : Nat} {p : ByteArray × Int} {n : ByteArray} {f : Int} (h : l[i]? = some p) : rputGo n f (l.drop i) true = keepE p n ++ rputGo n f (l.drop (i + 1)) true := by
  obtain ⟨hi, rfl⟩ := List.getElem?_eq_some_iff.1 h
  rw [List.drop_eq_getElem_cons hi]
  rfl
theorem rputGo_less {l : RDir} {i : Nat} {p : ByteArray × Int} {n : ByteArray} {f : Int} (h : l[i]? = some p) (hb : bless p.1 n = true) : rputGo n f (l.drop i) false = keepE p n ++ rputGo n f (l.drop (i + 1)) false := by
  obtain ⟨hi, rfl⟩ := List.getElem?_eq_some_iff.1 h
  rw [List.drop_eq_getElem_cons hi]
  show (if bless _ n = true then _ else _) = _
  rw [if_pos hb]
  rfl
theorem rputGo_more {l : RDir} {i : Nat} {p : ByteArray × Int} {n : ByteArray} {f : Int} (h : l[i]? = some p) (hb : bless p.1 n = false) : rputGo n f (l.drop i) false = (n, f) :: (keepE p n ++ rputGo n f (l.drop (i + 1)) true) := by
  obtain ⟨hi, rfl⟩ := List.getElem?_eq_some_iff.1 h
  rw [List.drop_eq_getElem_cons hi]
  show (if bless _ n = true then _ else _) = _
  rw [if_neg (by rw [hb]; simp)]
  rfl
theorem rputGo_end {l : RDir} {i : Nat} {n : ByteArray} {f : Int} {b : Bool} (h : l.length ≤ i) : rputGo n f (l.drop i) b = if b then [] else [(n, f)] := by
  rw [List.drop_eq_nil_of_le h]
  cases b <;> rfl
theorem rputGo_len1 {n : ByteArray} {f : Int} : ∀ (l : RDir), (rputGo n f l true).length ≤ l.length
  | [] => by simp [rputGo]
  | p :: l => by
    have := rputGo_len1 (n := n) (f := f) l
    simp only [rputGo, List.length_append, List.length_cons]
    split <;> simp <;> omega
theorem rputGo_len0 {n : ByteArray} {f : Int} : ∀ (l : RDir), (rputGo n f l false).length ≤ l.length + 1
  | [] => by simp [rputGo]
  | p :: l => by
    have h1 := rputGo_len1 (n := n) (f := f) l
    have h2 := rputGo_len0 (n := n) (f := f) l
    simp only [rputGo]
    split
    · simp only [List.length_append, List.length_cons]
      split <;> simp <;> omega
    · simp only [List.length_append, List.length_cons]
      split <;> simp <;> omega
theorem rput_length (l : RDir) (n : ByteArray) (f : Int) : (rput l n f).length ≤ l.length + 1 := by
  unfold rput
  cases decide (f < 0) with
  | true => have := rputGo_len1 (n := n) (f := f) l; omega
  | false => exact rputGo_len0 l
/-- What is put out comes of the list, or is the new one. -/
theorem mem_rputGo {n : ByteArray} {f : Int} {q : ByteArray × Int} : ∀ {l : RDir} {b : Bool}, q ∈ rputGo n f l b → q ∈ l ∨ (q = (n, f) ∧ b = false)
  | [], true, h => by simp [rputGo] at h
  | [], false, h => by simp [rputGo] at h; exact .inr ⟨h, rfl⟩
  | p :: l, true, h => by
    simp only [rputGo, List.mem_append] at h
    rcases h with h | h
    · split at h
      · simp at h
      · simp at h; exact .inl (by simp [h])
    · rcases mem_rputGo h with h | ⟨_, h⟩
      · exact .inl (by simp [h])
      · cases h
  | p :: l, false, h => by
    simp only [rputGo] at h
    split at h
    · rcases List.mem_append.1 h with h | h
      · split at h
        · simp at h
        · simp at h; exact .inl (by simp [h])
      · rcases mem_rputGo h with h | h
        · exact .inl (by simp [h])
        · exact .inr h
    · rcases List.mem_cons.1 h with h | h
      · exact .inr ⟨h, rfl⟩
      · rcases List.mem_append.1 h with h | h
        · split at h
          · simp at h
          · simp at h; exact .inl (by simp [h])
        · rcases mem_rputGo h with h | ⟨_, h⟩
          · exact .inl (by simp [h])
          · cases h
end Go.Proofs.YtgehalfnpbjjcaaGreat
