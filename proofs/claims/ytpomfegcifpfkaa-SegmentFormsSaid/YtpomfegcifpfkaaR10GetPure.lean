/- What ref10's Get answers is what segment's Get answers. -/
import Derived.Test.YtpomfegcifpfkaaR10Num
import Derived.Test.YtpomfegcifpfkaaSegGet2
namespace Go.Proofs.Ytpomfegcifpfkaa
open Go Go.RowKit Go.Sort
/-- An entry of a value, as the document reads it: a number that is none is -1. -/
def rentF (v : TV) : Option Ent :=
  match v.lst with
  | [a, x, y, z] => if h : v.tag = 3 ∧ a.tag = 2 ∧ a.byt.length = 32 then some ⟨⟨a.byt, h.2.2⟩, smallF x, smallF y, smallF z⟩ else none
  | _ => none
def rentsF : List TV → Option (List Ent)
  | [] => some []
  | v :: l => (rentF v).bind fun e => (rentsF l).map fun m => e :: m
def rlistF (l : List TV) : List Ent × Int := match rentsF l with | some m => if rightL m then (m, 0) else ([], 3) | none => ([], 3)
theorem smallF_place {v : TV} {p : Int} (h : placeF v = some p) : smallF v = p := by
  unfold placeF at h
  split at h
  · rename_i hc
    simp only [Option.some.injEq] at h
    unfold smallF
    rw [if_pos ⟨hc.1, by omega⟩, h]
  · cases h
theorem place_smallF {v : TV} (h0 : 0 ≤ smallF v) (h1 : smallF v ≤ 999999) : placeF v = some (smallF v) := by
  unfold smallF at *
  split at h0
  · rename_i hc
    rw [if_pos hc] at h1 ⊢
    unfold placeF
    rw [if_pos ⟨hc.1, by omega⟩]
  · omega
theorem rentF_entry {v : TV} {e : Ent} (h : entryF v = some e) : rentF v = some e := by
  unfold entryF at h
  split at h
  · rename_i a x y z hl
    split at h
    · rename_i hc
      rw [Option.bind_eq_some_iff] at h
      obtain ⟨p, hp, h⟩ := h
      rw [Option.bind_eq_some_iff] at h
      obtain ⟨q, hq, h⟩ := h
      rw [Option.bind_eq_some_iff] at h
      obtain ⟨r, hr, h⟩ := h
      simp only [Option.some.injEq] at h
      unfold rentF
      rw [hl]
      simp only
      rw [dif_pos hc, smallF_place hp, smallF_place hq, smallF_place hr, h]
    · cases h
  · cases h
theorem entryF_rent {v : TV} {e : Ent} (h : rentF v = some e) (hr : rightP e = true) : entryF v = some e := by
  obtain ⟨n1, n2, n3, p1, p2, p3⟩ := rightP_nums hr
  unfold rentF at h
  split at h
  · rename_i a x y z hl
    split at h
    · rename_i hc
      simp only [Option.some.injEq] at h
      subst h
      unfold entryF
      rw [hl]
      simp only
      simp only at n1 n2 n3 p1 p2 p3
      rw [dif_pos hc, place_smallF p1 (by omega), place_smallF p2 (by omega), place_smallF p3 (by omega)]
      rfl
    · cases h
  · cases h
theorem rentsF_entries : ∀ {l : List TV} {m : List Ent}, entriesF l = some m → rentsF l = some m
  | [], m, h => h
  | v :: l, m, h => by
    rw [entriesF, Option.bind_eq_some_iff] at h
    obtain ⟨e, he, h⟩ := h
    rw [Option.map_eq_some_iff] at h
    obtain ⟨q, hq, rfl⟩ := h
    rw [rentsF, rentF_entry he, Option.bind_some, rentsF_entries hq]; rfl
theorem entriesF_rents : ∀ {l : List TV} {m : List Ent}, rentsF l = some m → (∀ e ∈ m, rightP e = true) → entriesF l = some m
  | [], m, h, _ => h
  | v :: l, m, h, hm => by
    rw [rentsF, Option.bind_eq_some_iff] at h
    obtain ⟨e, he, h⟩ := h
    rw [Option.map_eq_some_iff] at h
    obtain ⟨q, hq, rfl⟩ := h
    rw [entriesF, entryF_rent he (hm e (by simp)), Option.bind_some, entriesF_rents hq (fun x hx => hm x (by simp [hx]))]; rfl
theorem rlistF_eq (l : List TV) : rlistF l = listF l := by
  unfold rlistF listF
  cases he : entriesF l with
  | some m => rw [rentsF_entries he]
  | none =>
    cases hr : rentsF l with
    | none => rfl
    | some m =>
      simp only
      rw [if_neg]
      intro hm
      rw [entriesF_rents hr (fun e h => rightL_mem hm h)] at he
      cases he
theorem rentsF_take_succ : ∀ {l : List TV} {i : Nat} {x : TV} {m : List Ent} {e : Ent}, l[i]? = some x → rentsF (l.take i) = some m → rentF x = some e → rentsF (l.take (i + 1)) = some (m ++ [e])
  | [], i, x, m, e, h, _, _ => by simp at h
  | v :: l, 0, x, m, e, h, hm, he => by
    simp only [List.getElem?_cons_zero, Option.some.injEq] at h
    subst h
    simp only [List.take_zero, rentsF, Option.some.injEq] at hm
    subst hm
    simp only [Nat.zero_add, List.take_succ_cons, List.take_zero, rentsF, he, Option.bind_some, Option.map_some, List.nil_append]
  | v :: l, i + 1, x, m, e, h, hm, he => by
    rw [List.take_succ_cons, rentsF, Option.bind_eq_some_iff] at hm
    obtain ⟨a, ha, hm⟩ := hm
    rw [Option.map_eq_some_iff] at hm
    obtain ⟨m', hm', rfl⟩ := hm
    have ih := rentsF_take_succ (l := l) (i := i) (by simpa using h) hm' he
    rw [List.take_succ_cons, rentsF, ha, Option.bind_some, ih]
    rfl
theorem rentsF_none : ∀ {l : List TV} {i : Nat} {x : TV}, l[i]? = some x → rentF x = none → rentsF l = none
  | [], i, x, h, _ => by simp at h
  | v :: l, 0, x, h, he => by
    simp only [List.getElem?_cons_zero, Option.some.injEq] at h
    subst h
    rw [rentsF, he]; rfl
  | v :: l, i + 1, x, h, he => by
    rw [rentsF, rentsF_none (l := l) (i := i) (by simpa using h) he]
    cases rentF v <;> rfl
theorem getSegF_list (xs : List UInt8) (hf : (crcOpenF xs).2 = 0) (hv : (getF (crcOpenF xs).1).2 = 0 ∧ (getF (crcOpenF xs).1).1.tag = 3) : getSegF xs = listF (getF (crcOpenF xs).1).1.lst := by
  unfold getSegF
  split
  rename_i b f hcf
  rw [hcf] at hf hv ⊢
  simp only at hf hv ⊢
  rw [if_pos hf]
  unfold getInF
  split
  rename_i v' g hg
  rw [hg] at hv ⊢
  rw [if_pos hv]
  rfl
theorem getSegF_odd (xs : List UInt8) (hf : (crcOpenF xs).2 = 0) (hv : ¬ ((getF (crcOpenF xs).1).2 = 0 ∧ (getF (crcOpenF xs).1).1.tag = 3)) : getSegF xs = ([], 3) := by
  unfold getSegF
  split
  rename_i b f hcf
  rw [hcf] at hf hv
  simp only at hf hv
  rw [if_pos hf]
  unfold getInF
  split
  rename_i v' g hg
  rw [hg] at hv
  rw [if_neg hv]
theorem getSegF_shut (xs : List UInt8) (hf : (crcOpenF xs).2 ≠ 0) : getSegF xs = ([], (crcOpenF xs).2) := by
  unfold getSegF
  split
  rename_i b f hcf
  rw [hcf] at hf
  simp only at hf
  rw [if_neg hf, hcf]
end Go.Proofs.Ytpomfegcifpfkaa
