/- How tlv's values lie in memory. -/
import Derived.Test.YtpomfegcifpfkaaPureTlv
import Derived.Test.YtpomfegcifpfkaaClone
namespace Go.Proofs.Ytpomfegcifpfkaa
open Go Go.RowKit
mutual
/-- These cells are a value of tlv, whose bytes and lists lie outside S. -/
def TVr (S : Nat → Prop) (w : World) : TV → List Value → Prop
  | .mk tag n b l, cs => n < 18446744073709551616 ∧ ∃ vb vl ks, cs = [.int .i64 tag, .int .u64 (n : Int), vb, vl] ∧ Bs S w vb b ∧ Row S w vl l.length 4 ks ∧ TVch S w l ks
/-- These cells, four for each, are these values. -/
def TVch (S : Nat → Prop) (w : World) : List TV → List Value → Prop
  | [], ks => ks = []
  | v :: l, ks => ∃ c cs, ks = c ++ cs ∧ TVr S w v c ∧ TVch S w l cs
end
theorem TVr.cells {S : Nat → Prop} {w : World} {v : TV} {cs : List Value} (h : TVr S w v cs) : v.num < 18446744073709551616 ∧ ∃ vb vl ks, cs = [.int .i64 v.tag, .int .u64 (v.num : Int), vb, vl] ∧ Bs S w vb v.byt ∧ Row S w vl v.lst.length 4 ks ∧ TVch S w v.lst ks := by
  cases v
  rw [TVr] at h
  exact h
theorem TVr.len {S : Nat → Prop} {w : World} {v : TV} {cs : List Value} (h : TVr S w v cs) : cs.length = 4 := by
  obtain ⟨_, vb, vl, ks, rfl, _⟩ := h.cells; rfl
mutual
theorem TVr.fr {S S' : Nat → Prop} {w w' : World} (hf : Fr S' w w') (hs : ∀ k, k < w.heap.size → S' k → S k) : ∀ (v : TV) (cs : List Value), TVr S w v cs → TVr S w' v cs
  | .mk tag n b l, cs, h => by
    rw [TVr] at h ⊢
    obtain ⟨h0, vb, vl, ks, h1, h2, h3, h4⟩ := h
    exact ⟨h0, vb, vl, ks, h1, h2.fr hf hs, h3.fr hf hs, TVch.fr hf hs l ks h4⟩
theorem TVch.fr {S S' : Nat → Prop} {w w' : World} (hf : Fr S' w w') (hs : ∀ k, k < w.heap.size → S' k → S k) : ∀ (l : List TV) (ks : List Value), TVch S w l ks → TVch S w' l ks
  | [], ks, h => by rw [TVch] at h ⊢; exact h
  | v :: l, ks, h => by
    rw [TVch] at h ⊢
    obtain ⟨c, cs, h1, h2, h3⟩ := h
    exact ⟨c, cs, h1, TVr.fr hf hs v c h2, TVch.fr hf hs l cs h3⟩
end
mutual
theorem TVr.mono {S S' : Nat → Prop} {w : World} (hs : ∀ k, k < w.heap.size → S' k → S k) : ∀ (v : TV) (cs : List Value), TVr S w v cs → TVr S' w v cs
  | .mk tag n b l, cs, h => by
    rw [TVr] at h ⊢
    obtain ⟨h0, vb, vl, ks, h1, h2, h3, h4⟩ := h
    exact ⟨h0, vb, vl, ks, h1, h2.mono hs, h3.mono hs, TVch.mono hs l ks h4⟩
theorem TVch.mono {S S' : Nat → Prop} {w : World} (hs : ∀ k, k < w.heap.size → S' k → S k) : ∀ (l : List TV) (ks : List Value), TVch S w l ks → TVch S' w l ks
  | [], ks, h => by rw [TVch] at h ⊢; exact h
  | v :: l, ks, h => by
    rw [TVch] at h ⊢
    obtain ⟨c, cs, h1, h2, h3⟩ := h
    exact ⟨c, cs, h1, TVr.mono hs v c h2, TVch.mono hs l cs h3⟩
end
theorem TVch.get {S : Nat → Prop} {w : World} : ∀ {l : List TV} {ks : List Value}, TVch S w l ks → ∀ {i : Nat} {v : TV}, l[i]? = some v →
    ∃ c, TVr S w v c ∧ ∀ j x, c[j]? = some x → ks[i * 4 + j]? = some x
  | [], ks, _, i, v, hv => by simp at hv
  | u :: l, ks, h, 0, v, hv => by
    rw [TVch] at h
    simp only [List.getElem?_cons_zero, Option.some.injEq] at hv
    subst hv
    obtain ⟨c, cs, rfl, h2, h3⟩ := h
    refine ⟨c, h2, fun j x hx => ?_⟩
    rw [Nat.zero_mul, Nat.zero_add, List.getElem?_append_left (List.getElem?_eq_some_iff.1 hx).1]
    exact hx
  | u :: l, ks, h, i + 1, v, hv => by
    rw [TVch] at h
    obtain ⟨c, cs, rfl, h2, h3⟩ := h
    obtain ⟨c', h4, h5⟩ := TVch.get h3 (i := i) (v := v) (by simpa using hv)
    refine ⟨c', h4, fun j x hx => ?_⟩
    have hl := h2.len
    rw [List.getElem?_append_right (by omega), hl, show (i + 1) * 4 + j - 4 = i * 4 + j from by omega]
    exact h5 j x hx
theorem TVch.snoc {S : Nat → Prop} {w : World} {v : TV} {c : List Value} (hv : TVr S w v c) : ∀ {l : List TV} {ks : List Value}, TVch S w l ks → TVch S w (l ++ [v]) (ks ++ c)
  | [], ks, h => by
    rw [TVch] at h
    subst h
    rw [List.nil_append, List.nil_append, TVch]
    exact ⟨c, [], by simp, hv, by rw [TVch]⟩
  | u :: l, ks, h => by
    rw [TVch] at h
    obtain ⟨c', cs, rfl, h2, h3⟩ := h
    rw [List.cons_append, TVch]
    exact ⟨c', cs ++ c, by rw [List.append_assoc], h2, TVch.snoc hv h3⟩
/-- A value that is handed over, or back. -/
def TVv (S : Nat → Prop) (w : World) (v : TV) (x : Value) : Prop := ∃ c0 c1 c2 c3, x = .agg #[c0, c1, c2, c3] ∧ TVr S w v [c0, c1, c2, c3]
/-- A slice of values. -/
def TVsl (S : Nat → Prop) (w : World) (l : List TV) (x : Value) : Prop := ∃ ks, Row S w x l.length 4 ks ∧ TVch S w l ks
theorem TVv.fr {S S' : Nat → Prop} {w w' : World} {v : TV} {x : Value} (h : TVv S w v x) (hf : Fr S' w w') (hs : ∀ k, k < w.heap.size → S' k → S k) : TVv S w' v x := by
  obtain ⟨c0, c1, c2, c3, h1, h2⟩ := h
  exact ⟨c0, c1, c2, c3, h1, TVr.fr hf hs _ _ h2⟩
theorem TVv.mono {S S' : Nat → Prop} {w : World} {v : TV} {x : Value} (h : TVv S w v x) (hs : ∀ k, k < w.heap.size → S' k → S k) : TVv S' w v x := by
  obtain ⟨c0, c1, c2, c3, h1, h2⟩ := h
  exact ⟨c0, c1, c2, c3, h1, TVr.mono hs _ _ h2⟩
theorem TVsl.fr {S S' : Nat → Prop} {w w' : World} {l : List TV} {x : Value} (h : TVsl S w l x) (hf : Fr S' w w') (hs : ∀ k, k < w.heap.size → S' k → S k) : TVsl S w' l x := by
  obtain ⟨ks, h1, h2⟩ := h
  exact ⟨ks, h1.fr hf hs, TVch.fr hf hs _ _ h2⟩
theorem TVsl.mono {S S' : Nat → Prop} {w : World} {l : List TV} {x : Value} (h : TVsl S w l x) (hs : ∀ k, k < w.heap.size → S' k → S k) : TVsl S' w l x := by
  obtain ⟨ks, h1, h2⟩ := h
  exact ⟨ks, h1.mono hs, TVch.mono hs _ _ h2⟩
/-- Over a step that turns none of its blocks, and seen from another set of blocks that holds none of them. -/
theorem TVr.shift {S S0 S' : Nat → Prop} {w w' : World} {v : TV} {cs : List Value} (h : TVr S w v cs) (hf : Fr S0 w w') (h0 : ∀ k, k < w.heap.size → S0 k → S k) (h1 : ∀ k, k < w.heap.size → S' k → S k) : TVr S' w' v cs := by
  have t1 : TVr (fun k => S k ∨ w.heap.size ≤ k) w v cs := TVr.mono (fun k hk hs => hs.elim id (fun hl => absurd hk (by omega))) v cs h
  have t2 := TVr.fr hf (fun k hk hs => .inl (h0 k hk hs)) v cs t1
  exact TVr.mono (fun k _ hs => by
    by_cases hk : k < w.heap.size
    · exact .inl (h1 k hk hs)
    · exact .inr (by omega)) v cs t2
theorem Bs.shift {S S0 S' : Nat → Prop} {w w' : World} {v : Value} {xs : List UInt8} (h : Bs S w v xs) (hf : Fr S0 w w') (h0 : ∀ k, k < w.heap.size → S0 k → S k) (h1 : ∀ k, k < w.heap.size → S' k → S k) : Bs S' w' v xs := by
  have t1 : Bs (fun k => S k ∨ w.heap.size ≤ k) w v xs := h.mono (fun k hk hs => hs.elim id (fun hl => absurd hk (by omega)))
  have t2 := t1.fr hf (fun k hk hs => .inl (h0 k hk hs))
  exact t2.mono (fun k _ hs => by
    by_cases hk : k < w.heap.size
    · exact .inl (h1 k hk hs)
    · exact .inr (by omega))
theorem Row.shift {S S0 S' : Nat → Prop} {w w' : World} {v : Value} {n size : Nat} {cs : List Value} (h : Row S w v n size cs) (hf : Fr S0 w w') (h0 : ∀ k, k < w.heap.size → S0 k → S k) (h1 : ∀ k, k < w.heap.size → S' k → S k) : Row S' w' v n size cs := by
  have t1 : Row (fun k => S k ∨ w.heap.size ≤ k) w v n size cs := h.mono (fun k hk hs => hs.elim id (fun hl => absurd hk (by omega)))
  have t2 := t1.fr hf (fun k hk hs => .inl (h0 k hk hs))
  exact t2.mono (fun k _ hs => by
    by_cases hk : k < w.heap.size
    · exact .inl (h1 k hk hs)
    · exact .inr (by omega))
theorem Bs.oneCell {S : Nat → Prop} {w : World} {v : Value} {xs : List UInt8} (h : Bs S w v xs) : v.oneCell' = true := by
  obtain ⟨a, c, rfl, _⟩ := h; rfl
theorem Row.oneCell {S : Nat → Prop} {w : World} {v : Value} {n size : Nat} {cs : List Value} (h : Row S w v n size cs) : v.oneCell' = true := by
  obtain ⟨_, a, c, rfl, _⟩ := h; rfl
theorem TVr.one {S : Nat → Prop} {w : World} {v : TV} {cs : List Value} (h : TVr S w v cs) : ∀ u ∈ cs, u.oneCell' = true := by
  obtain ⟨_, vb, vl, ks, rfl, hb, hr, _⟩ := h.cells
  intro u hu
  simp only [List.mem_cons, List.not_mem_nil, or_false] at hu
  rcases hu with rfl | rfl | rfl | rfl
  · rfl
  · rfl
  · exact hb.oneCell
  · exact hr.oneCell
theorem TVch.one {S : Nat → Prop} {w : World} : ∀ {l : List TV} {ks : List Value}, TVch S w l ks → ∀ u ∈ ks, u.oneCell' = true
  | [], ks, h, u, hu => by rw [TVch] at h; subst h; simp at hu
  | v :: l, ks, h, u, hu => by
    rw [TVch] at h
    obtain ⟨c, cs, rfl, h2, h3⟩ := h
    rcases List.mem_append.1 hu with hu | hu
    · exact h2.one u hu
    · exact TVch.one h3 u hu
theorem TVch.len {S : Nat → Prop} {w : World} : ∀ {l : List TV} {ks : List Value}, TVch S w l ks → ks.length = l.length * 4
  | [], ks, h => by rw [TVch] at h; subst h; rfl
  | v :: l, ks, h => by
    rw [TVch] at h
    obtain ⟨c, cs, rfl, h2, h3⟩ := h
    rw [List.length_append, h2.len, TVch.len h3, List.length_cons]; omega
end Go.Proofs.Ytpomfegcifpfkaa
