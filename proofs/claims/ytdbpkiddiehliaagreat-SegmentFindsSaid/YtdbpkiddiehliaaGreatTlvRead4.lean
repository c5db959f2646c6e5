/- tlv's read of a list: the plain part, and its loop's state. -/
import Derived.Test.YtdbpkiddiehliaaGreatTlvRead2
namespace Go.Proofs.YtdbpkiddiehliaaGreat
open Go Go.RowKit
theorem splitF_in {b : List UInt8} {t : UInt8} {i r : List UInt8} (h : splitF b = some (t, i, r)) : i.length ≤ 65535 := by
  unfold splitF at h
  split at h
  · rename_i t h1 l r'
    split at h
    · simp only [Option.some.injEq, Prod.mk.injEq] at h
      obtain ⟨_, rfl, rfl⟩ := h
      have := h1.toNat_lt
      have := l.toNat_lt
      simp; omega
    · cases h
  · cases h
theorem readWith_lt {sub : List UInt8 → Option (List TV)} {b : List UInt8} {v : TV} {r : List UInt8} (h : readWith sub b = some (v, r)) : r.length + 3 ≤ b.length := by
  unfold readWith at h
  cases hs : splitF b with
  | none => rw [hs] at h; cases h
  | some x =>
    obtain ⟨t, i, r'⟩ := x
    have hl := (splitF_lt hs).2
    rw [hs] at h
    simp only [Option.bind_some] at h
    split at h
    · split at h
      · simp only [Option.some.injEq, Prod.mk.injEq] at h; rw [← h.2]; exact hl
      · cases h
    · split at h
      · simp only [Option.some.injEq, Prod.mk.injEq] at h; rw [← h.2]; exact hl
      · split at h
        · cases hsub : sub i with
          | none => rw [hsub] at h; cases h
          | some l =>
            rw [hsub] at h
            simp only [Option.map_some, Option.some.injEq, Prod.mk.injEq] at h
            rw [← h.2]; exact hl
        · cases h
theorem readF_lt {d : Nat} {b : List UInt8} {v : TV} {r : List UInt8} (h : readF d b = some (v, r)) : r.length + 3 ≤ b.length := by
  cases d with
  | zero => rw [readF] at h; exact readWith_lt h
  | succ d => rw [readF] at h; exact readWith_lt h
theorem readsW_fuel {rd : List UInt8 → Option (TV × List UInt8)} (hrd : ∀ b v r, rd b = some (v, r) → r.length < b.length) : ∀ (f g : Nat) (b : List UInt8), b.length ≤ f → b.length ≤ g → readsW rd f b = readsW rd g b
  | f, g, [], _, _ => by
    cases f <;> cases g <;> simp [readsW]
  | 0, _, _ :: _, h, _ => by simp at h
  | _ + 1, 0, _ :: _, _, h => by simp at h
  | f + 1, g + 1, c :: b, hf, hg => by
    rw [readsW, readsW]
    cases h : rd (c :: b) with
    | none => rfl
    | some x =>
      obtain ⟨v, r⟩ := x
      have := hrd _ _ _ h
      simp only [List.length_cons] at this hf hg
      simp only [Option.bind_some]
      rw [readsW_fuel hrd f g r (by omega) (by omega)]
/-- All values that bytes are. -/
def readsF (d : Nat) (b : List UInt8) : Option (List TV) := readsW (readF d) b.length b
theorem readsF_nil (d : Nat) : readsF d [] = some [] := rfl
theorem readsF_step (d : Nat) (b : List UInt8) (h : b ≠ []) : readsF d b = (readF d b).bind fun x => (readsF d x.2).map fun l => x.1 :: l := by
  cases b with
  | nil => exact absurd rfl h
  | cons c b =>
    rw [readsF, List.length_cons, readsW]
    cases hh : readF d (c :: b) with
    | none => rfl
    | some x =>
      obtain ⟨v, r⟩ := x
      have := readF_lt hh
      simp only [List.length_cons] at this
      simp only [Option.bind_some, readsF]
      rw [readsW_fuel (fun b v r h => by have := readF_lt h; omega) b.length r.length r (by omega) (Nat.le_refl _)]
theorem TVch.shift {S S0 S' : Nat → Prop} {w w' : World} {l : List TV} {cs : List Value} (h : TVch S w l cs) (hf : Fr S0 w w') (h0 : ∀ k, k < w.heap.size → S0 k → S k) (h1 : ∀ k, k < w.heap.size → S' k → S k) : TVch S' w' l cs := by
  have t1 : TVch (fun k => S k ∨ w.heap.size ≤ k) w l cs := TVch.mono (fun k hk hs => hs.elim id (fun hl => absurd hk (by omega))) l cs h
  have t2 := TVch.fr hf (fun k hk hs => .inl (h0 k hk hs)) l cs t1
  exact TVch.mono (fun k _ hs => by
    by_cases hk : k < w.heap.size
    · exact .inl (h1 k hk hs)
    · exact .inr (by omega)) l cs t2
/-- A row at a fresh block. -/
theorem row_atk {w : World} {g n size : Nat} {cs : Array Value} {e : TypeId} {fz : Nat × Nat} (hg : w.heap[g]? = some (.cells cs e fz)) (hn : cs.size = n * size) (hl : n ≤ 140737488355328) : Row (fun _ => False) w (.slice (some ⟨g, 0, none⟩) n n) n size cs.toList := by
  refine ⟨by simp [hn], _, n, rfl, ⟨Nat.le_refl _, hl, by unfold maxLen; omega⟩, (fun h => nomatch h), .inr ⟨g, 0, rfl, lt_of_heap hg, id, fun j x hx => ?_⟩⟩
  rw [cell_of_heap hg, Nat.zero_add, ← Array.getElem?_toList]
  exact hx
/-- The state of the list's loop. -/
structure LS (S : Nat → Prop) (w wr : World) (l : List TV) (al : Option Addr) (cl : Nat) (ks : List Value) : Prop where
  box : wr.heap[w.heap.size]? = some (.cells #[.int .i64 3, .int .u64 0, .slice none 0 0, .slice al l.length cl] 92 (0, 0))
  own : Own wr (w.heap.size + 1) 92 4 (.slice al l.length cl) l.length ks
  ch : TVch (fun k => S k ∨ k = w.heap.size ∨ mine (.slice al l.length cl) k) wr l ks
  below : Below w.heap.size w wr
theorem LS.step {S SV : Nat → Prop} {w wr w4 w5 : World} {l : List TV} {v : TV} {al a' : Option Addr} {cl c' n' : Nat} {ks c : List Value} (h : LS S w wr l al cl ks) (hf : Fr (fun _ => False) wr w4) (hv : TVr SV w4 v c)
    (hSV : ∀ k, k < w4.heap.size → (S k ∨ k = w.heap.size ∨ mine (.slice al l.length cl) k) → SV k)
    (ho : Own w5 (w.heap.size + 1) 92 4 (.slice a' n' c') n' (ks ++ c)) (hn' : n' = (l ++ [v]).length) (hf5 : Fr (mine (.slice al l.length cl)) w4 w5)
    (hm : ∀ k, mine (.slice a' n' c') k → mine (.slice al l.length cl) k ∨ w4.heap.size ≤ k) :
    LS S w (w5.setCell ⟨w.heap.size, 3, none⟩ (.slice a' n' c')) (l ++ [v]) a' c' (ks ++ c) ∧ Fr (fun k => w.heap.size ≤ k) wr (w5.setCell ⟨w.heap.size, 3, none⟩ (.slice a' n' c')) := by
  subst hn'
  have hB : ¬ mine (.slice al l.length cl) w.heap.size := fun hk => by have := (Own.mine_ge h.own hk).1; omega
  have hB' : ¬ mine (.slice a' (l ++ [v]).length c') w.heap.size := fun hk => by have := (Own.mine_ge ho hk).1; omega
  have hF6 : Fr (fun k => k = w.heap.size ∨ mine (.slice al l.length cl) k) w4 (w5.setCell ⟨w.heap.size, 3, none⟩ (.slice a' (l ++ [v]).length c')) :=
    (hf5.mono (fun _ _ h => .inr h)).setCell (p := ⟨w.heap.size, 3, none⟩) (fun _ => .inl rfl) _
  have hnew : ∀ k, k < w4.heap.size → (S k ∨ k = w.heap.size ∨ mine (.slice a' (l ++ [v]).length c') k) → (S k ∨ k = w.heap.size ∨ mine (.slice al l.length cl) k) :=
    fun k hk hs => hs.imp id (fun hs => hs.imp id (fun hs => (hm k hs).resolve_right (by omega)))
  refine ⟨⟨?_, ?_, ?_, ?_⟩, (hf.mono (fun _ _ h => h.elim)).trans (hF6.mono (fun k _ hs => ?_))⟩
  · have := heap_store (hf5.heap (hf.heap h.box id) hB) 3 (.slice a' (l ++ [v]).length c')
    exact this
  · exact Own.fr ho ((Fr.refl (· = w.heap.size) w5).setCell (p := ⟨w.heap.size, 3, none⟩) (fun _ => rfl) _) (fun k hk e => hB' (e ▸ hk))
  · refine TVch.snoc (TVr.shift hv hF6 (fun k hk hs => hSV k hk (.inr hs)) (fun k hk hs => hSV k hk (hnew k hk hs))) ?_
    have hc4 : TVch (fun k => S k ∨ k = w.heap.size ∨ mine (.slice al l.length cl) k) w4 l ks := TVch.fr hf (fun _ _ h => h.elim) l ks h.ch
    exact TVch.shift hc4 hF6 (fun k hk hs => .inr hs) hnew
  · refine Below.fr h.below ((hf.mono (S' := fun k => k = w.heap.size ∨ mine (.slice al l.length cl) k) (fun _ _ h => h.elim)).trans hF6) (fun k hk hs => ?_)
    rcases hs with rfl | hs
    · omega
    · have := (Own.mine_ge h.own hs).1; omega
  · rcases hs with rfl | hs
    · exact Nat.le_refl _
    · have := (Own.mine_ge h.own hs).1; omega
end Go.Proofs.YtdbpkiddiehliaaGreat
/- tlv's read of a list. -/
namespace Go.Proofs.YtdbpkiddiehliaaGreat
open Go Go.RowKit
/-- How long a slice is. -/
def slen (v : Value) : Nat := match v with | .slice _ n _ => n | _ => 0
end Go.Proofs.YtdbpkiddiehliaaGreat
/- tlv's read, whole. -/
namespace Go.Proofs.YtdbpkiddiehliaaGreat
open Go Go.RowKit
end Go.Proofs.YtdbpkiddiehliaaGreat
