/- SegmentBack, walked: with the contracts of what it calls. -/
import Derived.Test.YtpomfegcifpfkaaJoinsLaw
import Derived.Test.YtpomfegcifpfkaaSegGet2
import Derived.Test.YtpomfegcifpfkaaR10Same
import Derived.Test.YtpomfegcifpfkaaRefBytes
namespace Go.Proofs.Ytpomfegcifpfkaa
open Go Go.RowKit Go.Sort
variable {P : Program} {k h : Nat}
/-- Contracts of what the law calls beside, over a program that is a variable. -/
structure BC (P : Program) : Prop where
  ER : ET P 22 81 35 56 (.agg (entC default).toArray)
  gR : P.eqGuardType P.depth 81 = false
  eR : ∀ (e : Ent) (w : World), (Op.equalIn 10000 81 (.agg (entC e).toArray) (.agg (entC e).toArray)).run P w = .ok true w
  new : ∀ W : World, Calls P 5 #[] W fun e w' => ∃ t, e = .returned (.pointer (some ⟨t, 0, none⟩)) ∧ W.heap.size ≤ t ∧ Tab w' t ∧ Below W.heap.size W w'
  bytes : ∀ (W : World) (v v' : Value) (xs : List UInt8), Bs (fun _ => False) W v xs → Bs (fun _ => False) W v' xs → Calls P 17 #[v, v'] W fun e w' => e = .returned (.bool true) ∧ Below W.heap.size W w'
  sort : ∀ (W : World) (v : Value) (l : List Ent), Es (fun _ => False) W v l → l.length ≤ 1000 → Calls P 15 #[v] W (RetE' W (sortE l))
  alive : ∀ W : World, Calls P 4 #[] W fun e w' => e = .returned (.bool true) ∧ Below W.heap.size W w'
  u_tFault : P.underlying 27 = some (TypeDesc.int IntKind.i64)
  r_tFault : ∀ w, (underlying 27).run P w = .ok (TypeDesc.int IntKind.i64) w
  a_tFault : ∀ w, Sem.run P (isAgg 27) w = Result.ok false w
  z_tFault : ∀ w, Sem.run P (Go.sizeOf 27) w = Result.ok 1 w
  v_tFault : ∀ w, Sem.run P (zeroValue 27) w = Result.ok (Value.int IntKind.i64 0) w
  u_tPtrTab : P.underlying 25 = some (TypeDesc.pointer 70)
  r_tPtrTab : ∀ w, (underlying 25).run P w = .ok (TypeDesc.pointer 70) w
  a_tPtrTab : ∀ w, Sem.run P (isAgg 25) w = Result.ok false w
  z_tPtrTab : ∀ w, Sem.run P (Go.sizeOf 25) w = Result.ok 1 w
  v_tPtrTab : ∀ w, Sem.run P (zeroValue 25) w = Result.ok (Value.pointer none) w
  u_tBytesFault : P.underlying 28 = some (TypeDesc.tuple #[23, 27])
  r_tBytesFault : ∀ w, (underlying 28).run P w = .ok (TypeDesc.tuple #[23, 27]) w
  a_tBytesFault : ∀ w, Sem.run P (isAgg 28) w = Result.ok false w
  z_tBytesFault : ∀ w, Sem.run P (Go.sizeOf 28) w = Result.ok 1 w
  v_tBytesFault : ∀ w, Sem.run P (zeroValue 28) w = Result.ok (Value.tuple #[Value.slice none 0 0, Value.int IntKind.i64 0]) w
  u_tEntsFault : P.underlying 33 = some (TypeDesc.tuple #[30, 27])
  r_tEntsFault : ∀ w, (underlying 33).run P w = .ok (TypeDesc.tuple #[30, 27]) w
  a_tEntsFault : ∀ w, Sem.run P (isAgg 33) w = Result.ok false w
  z_tEntsFault : ∀ w, Sem.run P (Go.sizeOf 33) w = Result.ok 1 w
  v_tEntsFault : ∀ w, Sem.run P (zeroValue 33) w = Result.ok (Value.tuple #[Value.slice none 0 0, Value.int IntKind.i64 0]) w
  u_tREnts : P.underlying 22 = some (TypeDesc.slice 81)
  r_tREnts : ∀ w, (underlying 22).run P w = .ok (TypeDesc.slice 81) w
  a_tREnts : ∀ w, Sem.run P (isAgg 22) w = Result.ok false w
  z_tREnts : ∀ w, Sem.run P (Go.sizeOf 22) w = Result.ok 1 w
  v_tREnts : ∀ w, Sem.run P (zeroValue 22) w = Result.ok (Value.slice none 0 0) w
  f_crcNew : P.funcs[5]? = some Try.f5
  f_refBytes : P.funcs[17]? = some Try.f17
  f_l10alive : P.funcs[4]? = some Try.f4
  f_segPut : P.funcs[6]? = some Try.f6
  f_segGet : P.funcs[9]? = some Try.f9
/-- What the walk carries: the table, the entries, the bytes. -/
structure ST (t z : Nat) (w0 w1 W : World) (sv : Value) (sl : List Ent) (bv : Value) (ys : List UInt8) : Prop where
  tab : Tab W t
  fr : Fr (· = t) w1 W
  ez : Es (fun q => q = t ∨ z ≤ q) W sv sl
  bz : Bs (fun q => q = t ∨ z ≤ q) W bv ys
  first : Below w0.heap.size w0 w1
  tn : w0.heap.size ≤ t
  tz : t < z
  wz : w1.heap.size ≤ z
  zW : z ≤ W.heap.size
section
variable {t z : Nat} {w0 w1 W W' : World} {sv bv : Value} {sl : List Ent} {ys : List UInt8}
theorem ST.step (h : ST t z w0 w1 W sv sl bv ys) (ht : Tab W' t) (hf : Fr (· = t) W W') : ST t z w0 w1 W' sv sl bv ys :=
  ⟨ht, h.fr.trans hf, h.ez.fr hf (fun _ _ h => .inl h), h.bz.fr hf (fun _ _ h => .inl h), h.first, h.tn, h.tz, h.wz, Nat.le_trans h.zW hf.size⟩
theorem ST.below (h : ST t z w0 w1 W sv sl bv ys) (hb : Below W.heap.size W W') : ST t z w0 w1 W' sv sl bv ys :=
  h.step (h.tab.fr (Fr.of_below hb : Fr (fun _ => False) _ _) id) (Fr.of_below hb)
theorem ST.store (h : ST t z w0 w1 W sv sl bv ys) {g : Nat} (hf : Fr (· = g) W W') (hg : z ≤ g) : ST t z w0 w1 W' sv sl bv ys :=
  ⟨h.tab.fr hf (by have := h.tz; omega), h.fr.trans' hf (fun i hi e => by have := h.wz; omega), h.ez.fr hf (fun q _ e => .inr (by omega)), h.bz.fr hf (fun q _ e => .inr (by omega)), h.first, h.tn, h.tz, h.wz, Nat.le_trans h.zW hf.size⟩
theorem ST.es (h : ST t z w0 w1 W sv sl bv ys) : Es (· = t) W sv sl := h.ez.mono (fun _ _ h => .inl h)
theorem ST.bs (h : ST t z w0 w1 W sv sl bv ys) : Bs (· = t) W bv ys := h.bz.mono (fun _ _ h => .inl h)
theorem ST.lt (h : ST t z w0 w1 W sv sl bv ys) : t < W.heap.size := h.tab.lt
theorem ST.fin (h : ST t z w0 w1 W sv sl bv ys) : Below w0.heap.size w0 W := Below.fr h.first h.fr (fun i hi e => by have := h.tn; omega)
end
theorem sealed_segs_len {l : List Ent} (hr : rightL l = true) : (sealed (enc (segsTV l))).length ≤ 100000 := by
  obtain ⟨kk, hk⟩ := inn_segs hr
  have h1 := inn_le hk
  have h2 := inn_length _ _ _ hk
  unfold sealed
  rw [List.length_append, enc_length, h2, show (tail4 (crcSum (enc (segsTV l)))).length = 4 from rfl]
  omega
/-- Bytes, as far as the law looks at them. -/
def ArgB (w : World) (a : Option Addr) (n c : Nat) : Prop := n ≤ c ∧ c ≤ maxLen ∧ (n ≤ 2000 → ∃ xs : List UInt8, xs.length = n ∧ Bs (fun _ => False) w (.slice a n c) xs)
end Go.Proofs.Ytpomfegcifpfkaa
