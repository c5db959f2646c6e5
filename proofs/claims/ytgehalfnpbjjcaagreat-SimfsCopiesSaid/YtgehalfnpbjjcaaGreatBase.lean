/- Frames between worlds, and how bytes and rows of cells lie in memory: my own words and their plain laws. -/
import Derived.WalkKit
import Derived.Below
import Derived.Laws.Rows
import Derived.Deep.Draws
namespace Go.Proofs.YtgehalfnpbjjcaaGreat
open Go Go.RowKit

/-- Every block of w outside S is in w' as it was. -/
structure Fr (S : Nat → Prop) (w w' : World) : Prop where
  os : w'.os = w.os
  tape : w'.tape = w.tape
  output : w'.output = w.output
  size : w.heap.size ≤ w'.heap.size
  block : ∀ k, k < w.heap.size → ¬ S k → w'.heap[k]? = w.heap[k]?

theorem Fr.refl (S : Nat → Prop) (w : World) : Fr S w w := ⟨rfl, rfl, rfl, Nat.le_refl _, fun _ _ _ => rfl⟩
theorem Fr.trans {S : Nat → Prop} {a b c : World} (h : Fr S a b) (k : Fr S b c) : Fr S a c :=
  ⟨k.os.trans h.os, k.tape.trans h.tape, k.output.trans h.output, Nat.le_trans h.size k.size,
   fun i hi hs => (k.block i (Nat.lt_of_lt_of_le hi h.size) hs).trans (h.block i hi hs)⟩
theorem Fr.mono {S S' : Nat → Prop} {a b : World} (h : Fr S a b) (hs : ∀ k, k < a.heap.size → S k → S' k) : Fr S' a b :=
  ⟨h.os, h.tape, h.output, h.size, fun i hi hn => h.block i hi fun hS => hn (hs i hi hS)⟩
/-- Two steps, the second of which may turn what is new, too. -/
theorem Fr.trans' {S S' : Nat → Prop} {a b c : World} (h : Fr S a b) (k : Fr S' b c) (hs : ∀ i, i < a.heap.size → S' i → S i) : Fr S a c :=
  ⟨k.os.trans h.os, k.tape.trans h.tape, k.output.trans h.output, Nat.le_trans h.size k.size,
   fun i hi hn => (k.block i (Nat.lt_of_lt_of_le hi h.size) fun hS => hn (hs i hi hS)).trans (h.block i hi hn)⟩
theorem Fr.drew {S : Nat → Prop} {a w : World} (h : Fr S a w) : Fr S a w.drew := ⟨h.os, h.tape, h.output, h.size, h.block⟩
theorem Fr.drewN {S : Nat → Prop} {a w : World} (h : Fr S a w) (n : Nat) : Fr S a (w.drewN n) := ⟨h.os, h.tape, h.output, h.size, h.block⟩
theorem Fr.alloc {S : Nat → Prop} {a w : World} (h : Fr S a w) (o : Obj) : Fr S a (w.alloc o) :=
  ⟨h.os, h.tape, h.output, Nat.le_trans h.size (by simp), fun k hk hs => (Below.heap_alloc w o k (Nat.lt_of_lt_of_le hk h.size)).trans (h.block k hk hs)⟩
theorem Fr.setCell {S : Nat → Prop} {a w : World} (h : Fr S a w) {p : Addr} (hp : p.block < a.heap.size → S p.block) (u : Value) : Fr S a (w.setCell p u) :=
  ⟨h.os, h.tape, h.output, by simpa [World.setCell] using h.size,
   fun k hk hs => (Below.heap_setCell w p u k (fun e => hs (by subst e; exact hp hk))).trans (h.block k hk hs)⟩
theorem Fr.of_below {S : Nat → Prop} {a w : World} (h : Below a.heap.size a w) : Fr S a w := ⟨h.os, h.tape, h.output, h.size, fun k hk _ => h.block k hk⟩
theorem Fr.below {a w : World} (h : Fr (fun _ => False) a w) : Below a.heap.size a w := ⟨h.os, h.tape, h.output, h.size, fun k hk => h.block k hk id⟩
/-- Behind a step within which only what the first world had not was turned: 'Below'. -/
theorem Below.fr {S : Nat → Prop} {a b c : World} (h : Below a.heap.size a b) (k : Fr S b c) (hs : ∀ i, i < a.heap.size → ¬ S i) : Below a.heap.size a c :=
  ⟨k.os.trans h.os, k.tape.trans h.tape, k.output.trans h.output, Nat.le_trans h.size k.size,
   fun i hi => (k.block i (Nat.lt_of_lt_of_le hi h.size) (hs i hi)).trans (h.block i hi)⟩
theorem Below.below {a b c : World} (h : Below a.heap.size a b) (k : Below b.heap.size b c) : Below a.heap.size a c := h.trans (k.mono h.size)
theorem Fr.heap {S : Nat → Prop} {a b : World} (h : Fr S a b) {k : Nat} {o : Obj} (hk : a.heap[k]? = some o) (hs : ¬ S k) : b.heap[k]? = some o := by
  have hlt : k < a.heap.size := by
    by_cases hl : k < a.heap.size
    · exact hl
    · rw [Array.getElem?_eq_none (by omega)] at hk; cases hk
  rw [h.block k hlt hs, hk]
theorem Fr.cell {S : Nat → Prop} {a b : World} (h : Fr S a b) {p : Addr} (hp : p.block < a.heap.size) (hs : ¬ S p.block) : b.cell? p = a.cell? p :=
  World.cell?_of_block (w := a) (h.block p.block hp hs)
theorem Fr.frozen {S : Nat → Prop} {a b : World} (h : Fr S a b) {p : Addr} (hp : p.block < a.heap.size) (hs : ¬ S p.block) : b.frozen? p = a.frozen? p :=
  World.frozen?_of_block (w := a) (h.block p.block hp hs)
theorem lt_of_heap {w : World} {k : Nat} {o : Obj} (hk : w.heap[k]? = some o) : k < w.heap.size := by
  by_cases hl : k < w.heap.size
  · exact hl
  · rw [Array.getElem?_eq_none (by omega)] at hk; cases hk
theorem cell_of_heap {w : World} {g : Nat} {cs : Array Value} {t : TypeId} {fr : Nat × Nat} (hg : w.heap[g]? = some (.cells cs t fr)) (j : Nat) : w.cell? ⟨g, j, none⟩ = cs[j]? :=
  cell_of_row w g j cs t fr hg
/-- A store into a block that is known whole. -/
theorem heap_store {w : World} {g : Nat} {cs : Array Value} {t : TypeId} (hg : w.heap[g]? = some (.cells cs t (0, 0))) (i : Nat) (v : Value) :
    (w.setCell ⟨g, i, none⟩ v).heap[g]? = some (.cells (cs.setIfInBounds i v) t (0, 0)) := heap_setCell_same w g i cs t v hg
theorem ret_int {k : IntKind} {a b : Int} (h : a = b) : Ending.returned (.int k a) = .returned (.int k b) := by rw [h]
theorem ret_bool {a b : Bool} (h : a = b) : Ending.returned (.bool a) = .returned (.bool b) := by rw [h]
theorem ret_val {a b : Value} (h : a = b) : Ending.returned a = .returned b := by rw [h]
theorem hid {p : Prop} (h : p) : Hid p := h

/-- A slice's length within its capacity, and within what memory holds. -/
def Fits (n c : Nat) : Prop := n ≤ c ∧ n ≤ 140737488355328 ∧ c ≤ maxLen
/-- v is a slice of just these bytes, which lie outside S. -/
def Bs (S : Nat → Prop) (w : World) (v : Value) (xs : List UInt8) : Prop :=
  ∃ a c, v = .slice a xs.length c ∧ Fits xs.length c ∧ (a = none → c = 0) ∧
    (xs = [] ∨ ∃ b off, a = some ⟨b, off, none⟩ ∧ b < w.heap.size ∧ ¬ S b ∧ ∀ i x, xs[i]? = some x → w.cell? ⟨b, off + i, none⟩ = some (.int .u8 (x.toNat : Int)))
theorem Bs.fr {S S' : Nat → Prop} {w w' : World} {v : Value} {xs : List UInt8} (h : Bs S w v xs) (hf : Fr S' w w') (hs : ∀ k, k < w.heap.size → S' k → S k) : Bs S w' v xs := by
  obtain ⟨a, c, h1, h2, h3', h4⟩ := h
  refine ⟨a, c, h1, h2, h3', h4.imp id ?_⟩
  rintro ⟨b, off, e1, e2, e3, e4⟩
  exact ⟨b, off, e1, Nat.lt_of_lt_of_le e2 hf.size, e3, fun i x hx => (hf.cell (p := ⟨b, off + i, none⟩) e2 (fun hS => e3 (hs b e2 hS))).trans (e4 i x hx)⟩
theorem Bs.mono {S S' : Nat → Prop} {w : World} {v : Value} {xs : List UInt8} (h : Bs S w v xs) (hs : ∀ k, k < w.heap.size → S' k → S k) : Bs S' w v xs := by
  obtain ⟨a, c, h1, h2, h3', h4⟩ := h
  refine ⟨a, c, h1, h2, h3', h4.imp id ?_⟩
  rintro ⟨b, off, e1, e2, e3, e4⟩
  exact ⟨b, off, e1, e2, fun h => e3 (hs b e2 h), e4⟩
theorem Bs.nil (S : Nat → Prop) (w : World) : Bs S w (.slice none 0 0) [] := ⟨none, 0, rfl, ⟨Nat.le_refl _, Nat.zero_le _, Nat.zero_le _⟩, fun _ => rfl, .inl rfl⟩
theorem u8_lt (x : UInt8) : (x.toNat : Int) < 256 := by have := x.toNat_lt; omega
end Go.Proofs.YtgehalfnpbjjcaaGreat
