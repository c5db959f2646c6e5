/- tlv's values as plain data: which are right, their bytes, and the value that bytes begin with. -/
import Derived.WalkKit
namespace Go.Proofs.Ytpomfegcifpfkaa
open Go Go.RowKit
inductive TV where
  | mk (tag : Int) (n : Nat) (b : List UInt8) (l : List TV)
def TV.tag : TV → Int | .mk t _ _ _ => t
def TV.num : TV → Nat | .mk _ n _ _ => n
def TV.byt : TV → List UInt8 | .mk _ _ b _ => b
def TV.lst : TV → List TV | .mk _ _ _ l => l
def TV.zero : TV := .mk 0 0 [] []
/-- A number's bytes, the highest ahead, none for 0. -/
def numBytes (n : Nat) : List UInt8 := if _h : n = 0 then [] else numBytes (n / 256) ++ [UInt8.ofNat (n % 256)]
termination_by n
decreasing_by omega
/-- A number out of bytes, the highest ahead. -/
def bytesNum (l : List UInt8) : Nat := l.foldl (fun a c => a * 256 + c.toNat) 0
/-- Fields of its tag alone. -/
def onlyB (tag : Int) (n : Nat) (b : List UInt8) (len : Nat) : Bool :=
  if tag = 1 then b.isEmpty && len == 0 else if tag = 2 then n == 0 && len == 0 else if tag = 3 then n == 0 && b.isEmpty else false
mutual
/-- How many bytes stand behind the first three; none: it is not right. -/
def inn : Nat → TV → Option Nat
  | d, .mk tag n b l =>
    if onlyB tag n b l.length = true ∧ (tag = 3 → d ≠ 0) then
      (inns (d - 1) l).bind fun s => if (numBytes n).length + b.length + s ≤ 65535 then some ((numBytes n).length + b.length + s) else none
    else none
def inns : Nat → List TV → Option Nat
  | _, [] => some 0
  | d, v :: l => (inn d v).bind fun k => (inns d l).map fun s => 3 + k + s
end
mutual
/-- A value's bytes, if it is right. -/
def enc : TV → List UInt8
  | .mk tag n b l => UInt8.ofNat tag.toNat :: UInt8.ofNat ((numBytes n ++ b ++ encs l).length / 256) :: UInt8.ofNat ((numBytes n ++ b ++ encs l).length % 256) :: (numBytes n ++ b ++ encs l)
def encs : List TV → List UInt8
  | [] => []
  | v :: l => enc v ++ encs l
end
def TV.body : TV → List UInt8 | .mk _ n b l => numBytes n ++ b ++ encs l
theorem enc_eq (v : TV) : enc v = UInt8.ofNat v.tag.toNat :: UInt8.ofNat (v.body.length / 256) :: UInt8.ofNat (v.body.length % 256) :: v.body := by
  cases v; rw [enc]; rfl
theorem enc_length (v : TV) : (enc v).length = v.body.length + 3 := by rw [enc_eq]; simp
mutual
theorem inn_length : ∀ (d : Nat) (v : TV) (k : Nat), inn d v = some k → v.body.length = k
  | d, .mk tag n b l, k, h => by
    rw [inn] at h
    split at h
    · rw [Option.bind_eq_some_iff] at h
      obtain ⟨s, hs, h⟩ := h
      split at h
      · have := inns_length _ l s hs
        simp only [Option.some.injEq] at h
        simp [TV.body, this]; omega
      · cases h
    · cases h
theorem inns_length : ∀ (d : Nat) (l : List TV) (s : Nat), inns d l = some s → (encs l).length = s
  | _, [], s, h => by rw [inns] at h; simp only [Option.some.injEq] at h; rw [encs]; simpa using h
  | d, v :: l, s, h => by
    rw [inns, Option.bind_eq_some_iff] at h
    obtain ⟨k, hk, h⟩ := h
    rw [Option.map_eq_some_iff] at h
    obtain ⟨s', hs', h⟩ := h
    have h1 := inn_length d v k hk
    have h2 := inns_length d l s' hs'
    rw [encs, List.length_append, enc_length, h1, h2]; omega
end
/-- What Put answers. -/
def putF (v : TV) : List UInt8 × Int := if (inn 8 v).isSome then (enc v, 0) else ([], 1)
/-- tag, and what is in a form, that bytes begin with; and what is behind it. -/
def splitF (b : List UInt8) : Option (UInt8 × List UInt8 × List UInt8) :=
  match b with
  | t :: h :: l :: r => if h.toNat * 256 + l.toNat ≤ r.length then some (t, r.take (h.toNat * 256 + l.toNat), r.drop (h.toNat * 256 + l.toNat)) else none
  | _ => none
theorem splitF_lt {b : List UInt8} {t : UInt8} {i r : List UInt8} (h : splitF b = some (t, i, r)) : i.length + 3 ≤ b.length ∧ r.length + 3 ≤ b.length := by
  unfold splitF at h
  split at h
  · split at h
    · simp only [Option.some.injEq, Prod.mk.injEq] at h
      obtain ⟨_, rfl, rfl⟩ := h
      simp; omega
    · cases h
  · cases h
/-- Values one behind the other, till no byte is left. -/
def readsW (rd : List UInt8 → Option (TV × List UInt8)) : Nat → List UInt8 → Option (List TV)
  | _, [] => some []
  | 0, _ :: _ => none
  | f + 1, c :: b => (rd (c :: b)).bind fun x => (readsW rd f x.2).map fun l => x.1 :: l
/-- The value that bytes begin with, and what is behind it, where a list's values are read by sub. -/
def readWith (sub : List UInt8 → Option (List TV)) (b : List UInt8) : Option (TV × List UInt8) :=
  (splitF b).bind fun x =>
    if x.1.toNat = 1 then (if x.2.1.length ≤ 8 ∧ x.2.1.head? ≠ some 0 then some (.mk 1 (bytesNum x.2.1) [] [], x.2.2) else none)
    else if x.1.toNat = 2 then some (.mk 2 0 x.2.1 [], x.2.2)
    else if x.1.toNat = 3 then (sub x.2.1).map fun l => (.mk 3 0 [] l, x.2.2)
    else none
def readF : Nat → List UInt8 → Option (TV × List UInt8)
  | 0 => readWith fun _ => none
  | d + 1 => readWith fun i => readsW (readF d) i.length i
/-- What Get answers. -/
def getF (b : List UInt8) : TV × Int :=
  match readF 8 b with
  | some (v, []) => (v, 0)
  | _ => (TV.zero, 3)
end Go.Proofs.Ytpomfegcifpfkaa
