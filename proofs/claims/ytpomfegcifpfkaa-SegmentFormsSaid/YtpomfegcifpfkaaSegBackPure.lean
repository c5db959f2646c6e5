/- A segment's bytes, plainly: what is put is got, with a byte turned it is none, what is got has those bytes. -/
import Derived.Test.YtpomfegcifpfkaaTlvBack
import Derived.Test.YtpomfegcifpfkaaCrcBack
import Derived.Test.YtpomfegcifpfkaaJoinsPure
namespace Go.Proofs.Ytpomfegcifpfkaa
open Go Go.RowKit Go.Sort
/-- An entry as a value. -/
def segTV (e : Ent) : TV := .mk 3 0 [] [.mk 2 0 e.nm.1 [], .mk 1 e.pk.toNat [] [], .mk 1 e.pos.toNat [] [], .mk 1 e.ln.toNat [] []]
def segsTV (l : List Ent) : TV := .mk 3 0 [] (l.map segTV)
/-- What segment.Put answers. -/
def putSegF (l : List Ent) : List UInt8 × Int := if rightL l then (sealed (enc (segsTV l)), 0) else ([], 1)
/-- A number that may be a place. -/
def placeF (v : TV) : Option Int := if v.tag = 1 ∧ v.num ≤ 999999 then some (v.num : Int) else none
/-- The entry of a value. -/
def entryF (v : TV) : Option Ent :=
  match v.lst with
  | [a, x, y, z] =>
    if h : v.tag = 3 ∧ a.tag = 2 ∧ a.byt.length = 32 then
      (placeF x).bind fun p => (placeF y).bind fun q => (placeF z).bind fun r => some ⟨⟨a.byt, h.2.2⟩, p, q, r⟩
    else none
  | _ => none
def entriesF : List TV → Option (List Ent)
  | [] => some []
  | v :: l => (entryF v).bind fun e => (entriesF l).map fun m => e :: m
/-- What segment.Get answers for a value's bytes. -/
def getInF (b : List UInt8) : List Ent × Int :=
  match getF b with
  | (v, f) => if f = 0 ∧ v.tag = 3 then (match entriesF v.lst with | some l => if rightL l then (l, 0) else ([], 3) | none => ([], 3)) else ([], 3)
/-- What segment.Get answers. -/
def getSegF (x : List UInt8) : List Ent × Int :=
  match crcOpenF x with
  | (b, f) => if f = 0 then getInF b else ([], f)
theorem numBytes_small {n : Nat} (h : n ≤ 999999) : (numBytes n).length ≤ 3 := by
  by_cases h0 : n = 0
  · subst h0; rw [numBytes_zero]; simp
  rw [numBytes_pos n h0, List.length_append, List.length_singleton]
  by_cases h1 : n / 256 = 0
  · rw [h1, numBytes_zero]; simp
  rw [numBytes_pos _ h1, List.length_append, List.length_singleton]
  by_cases h2 : n / 256 / 256 = 0
  · rw [h2, numBytes_zero]; simp
  rw [numBytes_pos _ h2, List.length_append, List.length_singleton, show n / 256 / 256 / 256 = 0 from by omega, numBytes_zero]; simp
theorem inn_num (d n : Nat) (h : n ≤ 999999) : ∃ k, inn d (.mk 1 n [] []) = some k ∧ k ≤ 3 := by
  have := numBytes_small h
  refine ⟨(numBytes n).length, ?_, this⟩
  rw [inn, if_pos ⟨rfl, fun h => by cases h⟩, inns, Option.bind_some, if_pos (by simp; omega)]
  simp
theorem rightP_nums {e : Ent} (h : rightP e = true) : e.pk.toNat ≤ 999999 ∧ e.pos.toNat ≤ 999999 ∧ e.ln.toNat ≤ 999999 ∧ 0 ≤ e.pk ∧ 0 ≤ e.pos ∧ 0 ≤ e.ln := by
  unfold rightP at h
  simp only [decide_eq_true_eq] at h
  omega
theorem inn_seg {e : Ent} (h : rightP e = true) : ∃ k, inn 7 (segTV e) = some k ∧ k ≤ 53 := by
  obtain ⟨h1, h2, h3, _⟩ := rightP_nums h
  obtain ⟨k1, e1, l1⟩ := inn_num 6 _ h1
  obtain ⟨k2, e2, l2⟩ := inn_num 6 _ h2
  obtain ⟨k3, e3, l3⟩ := inn_num 6 _ h3
  have hn : inn 6 (.mk 2 0 e.nm.1 []) = some 32 := by
    rw [inn, if_pos ⟨rfl, fun h => by cases h⟩, inns, Option.bind_some, numBytes_zero, e.nm.2]; rfl
  have hi : inns 6 [.mk 2 0 e.nm.1 [], .mk 1 e.pk.toNat [] [], .mk 1 e.pos.toNat [] [], .mk 1 e.ln.toNat [] []] = some (3 + 32 + (3 + k1 + (3 + k2 + (3 + k3 + 0)))) := by
    simp only [inns, hn, e1, e2, e3, Option.bind_some, Option.map_some]
  refine ⟨3 + 32 + (3 + k1 + (3 + k2 + (3 + k3 + 0))), ?_, by omega⟩
  rw [segTV, inn, if_pos ⟨rfl, fun _ => by omega⟩, hi, Option.bind_some, numBytes_zero, if_pos (by simp; omega)]
  simp
theorem inns_segs : ∀ {l : List Ent}, (∀ e ∈ l, rightP e = true) → ∃ s, inns 7 (l.map segTV) = some s ∧ s ≤ 56 * l.length
  | [], _ => ⟨0, by rw [List.map_nil, inns], by simp⟩
  | e :: l, h => by
    obtain ⟨k, hk, lk⟩ := inn_seg (h e (by simp))
    obtain ⟨s, hs, ls⟩ := inns_segs (l := l) fun x hx => h x (by simp [hx])
    refine ⟨3 + k + s, ?_, by simp; omega⟩
    rw [List.map_cons, inns, hk, hs]; rfl
theorem rightL_len {l : List Ent} (h : rightL l = true) : l.length ≤ 900 := by
  unfold rightL at h
  simp only [Bool.and_eq_true, decide_eq_true_eq] at h
  exact h.2
theorem inn_segs {l : List Ent} (h : rightL l = true) : ∃ k, inn 8 (segsTV l) = some k := by
  obtain ⟨s, hs, ls⟩ := inns_segs fun e he => rightL_mem h he
  have := rightL_len h
  refine ⟨s, ?_⟩
  rw [segsTV, inn, if_pos ⟨rfl, fun _ => by omega⟩, hs, Option.bind_some, numBytes_zero, if_pos (by simp; omega)]
  simp
theorem sm_seg {e : Ent} (h : rightP e = true) : (segTV e).sm := by
  obtain ⟨h1, h2, h3, _⟩ := rightP_nums h
  simp only [segTV, TV.sm, TV.sms]
  exact ⟨by decide, ⟨by decide, trivial⟩, ⟨by omega, trivial⟩, ⟨by omega, trivial⟩, ⟨by omega, trivial⟩, trivial⟩
theorem sm_segs : ∀ {l : List Ent}, (∀ e ∈ l, rightP e = true) → TV.sms (l.map segTV)
  | [], _ => by rw [List.map_nil, TV.sms]; trivial
  | e :: l, h => by rw [List.map_cons, TV.sms]; exact ⟨sm_seg (h e (by simp)), sm_segs fun x hx => h x (by simp [hx])⟩
theorem putF_segs {l : List Ent} (h : rightL l = true) : putF (segsTV l) = (enc (segsTV l), 0) := by
  obtain ⟨k, hk⟩ := inn_segs h
  rw [putF, hk]; rfl
theorem getF_segs {l : List Ent} (h : rightL l = true) : getF (enc (segsTV l)) = (segsTV l, 0) := by
  obtain ⟨k, hk⟩ := inn_segs h
  exact getF_enc hk (by rw [segsTV, TV.sm]; exact ⟨by decide, sm_segs fun e he => rightL_mem h he⟩)
theorem placeF_num {i : Int} (h0 : 0 ≤ i) (h : i.toNat ≤ 999999) : placeF (.mk 1 i.toNat [] []) = some i := by
  rw [placeF, if_pos ⟨rfl, h⟩]
  show some ((i.toNat : Nat) : Int) = some i
  rw [Int.toNat_of_nonneg h0]
theorem entryF_seg {e : Ent} (h : rightP e = true) : entryF (segTV e) = some e := by
  obtain ⟨h1, h2, h3, h4, h5, h6⟩ := rightP_nums h
  unfold entryF segTV
  show (if h : (3 : Int) = 3 ∧ (2 : Int) = 2 ∧ e.nm.1.length = 32 then _ else none) = _
  rw [dif_pos ⟨rfl, rfl, e.nm.2⟩, placeF_num h4 h1, placeF_num h5 h2, placeF_num h6 h3]
  rfl
theorem entriesF_segs : ∀ {l : List Ent}, (∀ e ∈ l, rightP e = true) → entriesF (l.map segTV) = some l
  | [], _ => rfl
  | e :: l, h => by
    rw [List.map_cons, entriesF, entryF_seg (h e (by simp)), Option.bind_some, entriesF_segs fun x hx => h x (by simp [hx])]; rfl
/-- What is put is got. -/
theorem getSegF_put {l : List Ent} (h : rightL l = true) : getSegF (sealed (enc (segsTV l))) = (l, 0) := by
  rw [getSegF, crcOpen_sealed]
  show (if (0 : Int) = 0 then getInF (enc (segsTV l)) else _) = _
  rw [if_pos rfl, getInF, getF_segs h]
  show (if (0 : Int) = 0 ∧ (3 : Int) = 3 then (match entriesF (l.map segTV) with | some l => if rightL l then (l, (0 : Int)) else ([], 3) | none => ([], 3)) else ([], 3)) = (l, (0 : Int))
  rw [if_pos ⟨rfl, rfl⟩, entriesF_segs fun e he => rightL_mem h he]
  show (if rightL l = true then (l, (0 : Int)) else ([], 3)) = _
  rw [if_pos h]
/-- With a byte turned they are none. -/
theorem getSegF_turned (b : List UInt8) (k : Nat) (hk : k < (sealed b).length) (d : UInt8) (hd : d ≠ (sealed b)[k]) : getSegF ((sealed b).set k d) = ([], 4) := by
  rw [getSegF, crcOpen_turned b k hk d hd]; rfl
theorem placeF_back {v : TV} {p : Int} (h : placeF v = some p) : v.tag = 1 ∧ v.num = p.toNat := by
  unfold placeF at h
  split at h
  · rename_i hc
    simp only [Option.some.injEq] at h
    subst h
    exact ⟨hc.1, rfl⟩
  · cases h
theorem inn_tag1 {d : Nat} {v : TV} (h : (inn d v).isSome = true) (ht : v.tag = 1) : v = .mk 1 v.num [] [] := by
  obtain ⟨tag, n, b, l⟩ := v
  obtain ⟨k, hk⟩ := Option.isSome_iff_exists.mp h
  obtain ⟨ho, _⟩ := inn_split hk
  obtain rfl : tag = 1 := ht
  simp only [onlyB, if_pos, Bool.and_eq_true, List.isEmpty_iff, beq_iff_eq, List.length_eq_zero_iff] at ho
  obtain ⟨rfl, rfl⟩ := ho
  rfl
theorem inn_tag2 {d : Nat} {v : TV} (h : (inn d v).isSome = true) (ht : v.tag = 2) : v = .mk 2 0 v.byt [] := by
  obtain ⟨tag, n, b, l⟩ := v
  obtain ⟨k, hk⟩ := Option.isSome_iff_exists.mp h
  obtain ⟨ho, _⟩ := inn_split hk
  obtain rfl : tag = 2 := ht
  rw [onlyB, if_neg (by decide), if_pos rfl] at ho
  simp only [Bool.and_eq_true, beq_iff_eq, List.length_eq_zero_iff] at ho
  obtain ⟨rfl, rfl⟩ := ho
  rfl
theorem inn_tag3 {d : Nat} {v : TV} (h : (inn d v).isSome = true) (ht : v.tag = 3) : v = .mk 3 0 [] v.lst ∧ ∃ s, inns (d - 1) v.lst = some s := by
  obtain ⟨tag, n, b, l⟩ := v
  obtain ⟨k, hk⟩ := Option.isSome_iff_exists.mp h
  obtain ⟨ho, _, hs, _⟩ := inn_split hk
  obtain rfl : tag = 3 := ht
  rw [onlyB, if_neg (by decide), if_neg (by decide), if_pos rfl] at ho
  simp only [Bool.and_eq_true, beq_iff_eq, List.isEmpty_iff] at ho
  obtain ⟨rfl, rfl⟩ := ho
  exact ⟨rfl, hs⟩
theorem inns_cons {d : Nat} {v : TV} {l : List TV} {s : Nat} (h : inns d (v :: l) = some s) : (inn d v).isSome = true ∧ ∃ t, inns d l = some t := by
  rw [inns, Option.bind_eq_some_iff] at h
  obtain ⟨k, hk, h⟩ := h
  rw [Option.map_eq_some_iff] at h
  obtain ⟨t, ht, _⟩ := h
  exact ⟨by rw [hk]; rfl, t, ht⟩
theorem entryF_back {d : Nat} {v : TV} {e : Ent} (hi : (inn d v).isSome = true) (h : entryF v = some e) : v = segTV e := by
  unfold entryF at h
  split at h
  · rename_i a x y z hl
    split at h
    · rename_i hc
      rw [Option.bind_eq_some_iff] at h
      obtain ⟨p, hp, h⟩ := h
      rw [Option.bind_eq_some_iff] at h
      obtain ⟨q, hq, h⟩ := h
      rw [Option.bind_eq_some_iff] at h
      obtain ⟨r, hr, h⟩ := h
      simp only [Option.some.injEq] at h
      subst h
      obtain ⟨h3, s, hs⟩ := inn_tag3 hi hc.1
      rw [hl] at h3 hs
      obtain ⟨ia, _, hs⟩ := inns_cons hs
      obtain ⟨ix, _, hs⟩ := inns_cons hs
      obtain ⟨iy, _, hs⟩ := inns_cons hs
      obtain ⟨iz, _, hs⟩ := inns_cons hs
      have ha := inn_tag2 ia hc.2.1
      obtain ⟨tx, nx⟩ := placeF_back hp
      obtain ⟨ty, ny⟩ := placeF_back hq
      obtain ⟨tz, nz⟩ := placeF_back hr
      have hx := inn_tag1 ix tx
      have hy := inn_tag1 iy ty
      have hz := inn_tag1 iz tz
      rw [nx] at hx
      rw [ny] at hy
      rw [nz] at hz
      refine h3.trans ?_
      show TV.mk 3 0 [] [a, x, y, z] = TV.mk 3 0 [] [.mk 2 0 a.byt [], .mk 1 p.toNat [] [], .mk 1 q.toNat [] [], .mk 1 r.toNat [] []]
      rw [← ha, ← hx, ← hy, ← hz]
    · cases h
  · cases h
theorem entriesF_back {d : Nat} : ∀ {l : List TV} {m : List Ent} {s : Nat}, inns d l = some s → entriesF l = some m → l = m.map segTV
  | [], m, s, _, h => by rw [entriesF] at h; simp only [Option.some.injEq] at h; subst h; rfl
  | v :: l, m, s, hs, h => by
    obtain ⟨hv, t, ht⟩ := inns_cons hs
    rw [entriesF, Option.bind_eq_some_iff] at h
    obtain ⟨e, he, h⟩ := h
    rw [Option.map_eq_some_iff] at h
    obtain ⟨q, hq, rfl⟩ := h
    rw [List.map_cons, ← entryF_back hv he, ← entriesF_back ht hq]
/-- What is got has those bytes. -/
theorem getSegF_back {x : List UInt8} {l : List Ent} (h : getSegF x = (l, 0)) : rightL l = true ∧ x = sealed (enc (segsTV l)) := by
  unfold getSegF at h
  rcases hc : crcOpenF x with ⟨b, f⟩
  rw [hc] at h
  simp only at h
  split at h
  · rename_i hf
    subst hf
    unfold getInF at h
    rcases hg : getF b with ⟨v, g⟩
    rw [hg] at h
    simp only at h
    split at h
    · rename_i hv
      obtain ⟨rfl, ht⟩ := hv
      obtain ⟨hb, ⟨k, hk⟩, _⟩ := getF_back hg
      split at h
      · rename_i m hm
        split at h
        · rename_i hr
          simp only [Prod.mk.injEq, and_true] at h
          subst h
          refine ⟨hr, ?_⟩
          obtain ⟨h3, s, hs⟩ := inn_tag3 (by rw [hk]; rfl) ht
          have := entriesF_back hs hm
          rw [this] at h3
          rw [crcOpen_back hc, hb, h3]; rfl
        · simp at h
      · simp at h
    · simp at h
  · rename_i hf
    simp only [Prod.mk.injEq] at h
    exact absurd h.2 hf
/-- What is not got is nothing. -/
theorem getSegF_none {x : List UInt8} (h : (getSegF x).2 ≠ 0) : (getSegF x).1 = [] := by
  unfold getSegF at h ⊢
  rcases hc : crcOpenF x with ⟨b, f⟩
  rw [hc] at h
  simp only at h ⊢
  split
  · rename_i hf
    rw [if_pos hf] at h
    unfold getInF at h ⊢
    rcases hg : getF b with ⟨v, g⟩
    rw [hg] at h
    simp only at h ⊢
    split
    · rename_i hv
      rw [if_pos hv] at h
      split
      · rename_i m hm
        rw [hm] at h
        simp only at h
        split
        · rename_i hr; rw [if_pos hr] at h; exact absurd rfl h
        · rfl
      · rfl
    · rfl
  · rfl
end Go.Proofs.Ytpomfegcifpfkaa
