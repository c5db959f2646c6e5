/- Bytes as rows; slices.Clone of bytes, slices.Equal of bytes. -/
import Derived.Test.YtgehalfnpbjjcaaGreatProg
import Derived.Test.YtgehalfnpbjjcaaGreatRow
import Derived.Outline
namespace Go.Proofs.YtgehalfnpbjjcaaGreat
open Go Go.RowKit
section
variable {P : Program}
theorem equalIn_slice_nil (w : World) {t e : TypeId} (a : Option Addr) (n c d : Nat) (h : P.underlying t = some (.slice e)) : (Op.equalIn (d + 1) t (.slice a n c) (.slice none 0 0)).run P w = .ok a.isNone w := by
  cases a <;> simp [Op.equalIn, run_underlying h]
theorem eql_slice_nil (w : World) {t e : TypeId} (a : Option Addr) (n c : Nat) (h : P.underlying t = some (.slice e)) : (binOp .eql t (.slice a n c) (.slice none 0 0)).run P w = .ok (.bool a.isNone) w := by
  simp [binOp, Op.equal, Op.maxDepth, equalIn_slice_nil w a n c 9999 h]
theorem neq_slice_nil (w : World) {t e : TypeId} (a : Option Addr) (n c : Nat) (h : P.underlying t = some (.slice e)) : (binOp .neq t (.slice a n c) (.slice none 0 0)).run P w = .ok (.bool (!a.isNone)) w := by
  simp [binOp, Op.equal, Op.maxDepth, equalIn_slice_nil w a n c 9999 h]
end
/-- A byte as a cell. -/
def bcell (x : UInt8) : Value := .int .u8 (x.toNat : Int)
def bcells (xs : List UInt8) : List Value := xs.map bcell
theorem bcells_length (xs : List UInt8) : (bcells xs).length = xs.length * 1 := by simp [bcells]
theorem bcells_one (xs : List UInt8) : ∀ u ∈ bcells xs, u.oneCell' = true := by
  intro u hu; obtain ⟨x, _, rfl⟩ := List.mem_map.1 hu; rfl
theorem bcells_append (xs ys : List UInt8) : bcells xs ++ bcells ys = bcells (xs ++ ys) := by simp [bcells]
theorem Bs.row {S : Nat → Prop} {w : World} {v : Value} {xs : List UInt8} (h : Bs S w v xs) : Row S w v xs.length 1 (bcells xs) := by
  obtain ⟨a, c, h1, h2, h3', h4⟩ := h
  refine ⟨bcells_length xs, a, c, h1, h2, h3', ?_⟩
  rcases h4 with rfl | ⟨b, off, e1, e2, e3, e4⟩
  · exact .inl rfl
  · refine .inr ⟨b, off, e1, e2, e3, fun j x hx => ?_⟩
    simp only [bcells, List.getElem?_map, Option.map_eq_some_iff] at hx
    obtain ⟨y, hy, rfl⟩ := hx
    exact e4 j y hy
theorem Bs.of_row {S : Nat → Prop} {w : World} {v : Value} {xs : List UInt8} {n : Nat} (h : Row S w v n 1 (bcells xs)) : Bs S w v xs := by
  obtain ⟨h0, a, c, h1, h2, h3', h4⟩ := h
  obtain rfl : n = xs.length := by simp [bcells] at h0; omega
  refine ⟨a, c, h1, h2, h3', ?_⟩
  rcases h4 with h4 | ⟨b, off, e1, e2, e3, e4⟩
  · exact .inl (List.eq_nil_of_length_eq_zero h4)
  · exact .inr ⟨b, off, e1, e2, e3, fun i x hx => e4 i (bcell x) (by simp [bcells, hx])⟩
/-- v is a slice of these bytes that the call has made. -/
def OwnB (w : World) (base : Nat) (v : Value) (xs : List UInt8) : Prop := Own w base 5 1 v xs.length (bcells xs)
theorem OwnB.bs {w : World} {base : Nat} {v : Value} {xs : List UInt8} (h : OwnB w base v xs) {S : Nat → Prop} (hs : ∀ k, base ≤ k → k < w.heap.size → ¬ S k) : Bs S w v xs := Bs.of_row (Own.row h hs)
theorem etB : ET Tryz.prog 33 5 1 1 (.int .u8 0) := ⟨Tryz.underlying33, by kernel_rfl, rfl, by decide, by decide⟩

theorem own_empty (w : World) (base : Nat) (e : TypeId) (size : Nat) (a : Option Addr) : Own w base e size (.slice a 0 0) 0 [] := ⟨by simp, .inl ⟨rfl, a, rfl⟩⟩

end Go.Proofs.YtgehalfnpbjjcaaGreat
