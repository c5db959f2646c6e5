/- tlv's split: tag, what is in a form, what is behind it. -/
import Derived.Test.YtdbpkiddiehliaaGreatTlvPut
namespace Go.Proofs.YtdbpkiddiehliaaGreat
open Go Go.RowKit
theorem Bs.sub {S : Nat → Prop} {w : World} {b off c c' n : Nat} {xs ys : List UInt8} (h : Bs S w (.slice (some ⟨b, off, none⟩) xs.length c) xs) (lo : Nat) (hn : ys.length = n) (hc : n ≤ c') (hc' : c' ≤ c) (hy : ∀ i y, ys[i]? = some y → xs[lo + i]? = some y) (hl : n ≤ xs.length) :
    Bs S w (.slice (some ⟨b, off + lo, none⟩) n c') ys := by
  obtain ⟨a, c1, h1, h2, h3', h4⟩ := h
  injection h1 with e1 _ e3
  subst e1 e3
  refine ⟨some ⟨b, off + lo, none⟩, c', by rw [hn], ⟨by omega, by have := h2.2.1; omega, by have := h2.2.2; omega⟩, (fun h => nomatch h), ?_⟩
  rcases h4 with h4 | ⟨b', off', e1, e2, e3, e4⟩
  · subst h4
    simp only [List.length_nil] at hl
    exact .inl (List.eq_nil_of_length_eq_zero (by omega))
  · injection e1 with e1
    injection e1 with e1 e5 _
    subst e1 e5
    exact .inr ⟨b, off + lo, rfl, e2, e3, fun i y hy' => by rw [Nat.add_assoc]; exact e4 _ y (hy i y hy')⟩
theorem Bs.empty (S : Nat → Prop) (w : World) (a : Addr) (c : Nat) (hc : c ≤ maxLen) : Bs S w (.slice (some a) 0 c) [] := ⟨some a, c, rfl, ⟨Nat.zero_le _, Nat.zero_le _, hc⟩, (fun h => nomatch h), .inl rfl⟩
theorem or_bytes (x y : UInt8) : bits .or .i64 ((x.toNat : Int) * 256) (y.toNat : Int) = ((x.toNat * 256 + y.toNat : Nat) : Int) := by
  have hx := x.toNat_lt
  have hy := y.toNat_lt
  have h1 : (BitVec.ofInt 64 ((x.toNat : Int) * 256)).toNat = x.toNat * 256 := by
    rw [show ((x.toNat : Int) * 256) = ((x.toNat * 256 : Nat) : Int) by omega, BitVec.ofInt_natCast, BitVec.toNat_ofNat]; omega
  have h2 : (BitVec.ofInt 64 (y.toNat : Int)).toNat = y.toNat := by rw [BitVec.ofInt_natCast, BitVec.toNat_ofNat]; omega
  show IntKind.i64.wrap ((BitVec.ofInt 64 ((x.toNat : Int) * 256) ||| BitVec.ofInt 64 (y.toNat : Int)).toNat : Int) = _
  rw [BitVec.toNat_or, h1, h2]
  have h3 : x.toNat * 256 ||| y.toNat = x.toNat * 256 + y.toNat := by
    rw [show x.toNat * 256 = 2 ^ 8 * x.toNat by omega, Nat.two_pow_add_eq_or_of_lt (by omega)]
  rw [h3, IntKind.wrap_i64]; omega
theorem results_tmp4' {fn : Func} {t u v x : Tmp} (h : fn.results = #[.tmp t, .tmp u, .tmp v, .tmp x]) (tmps : Array Value) (P : Program) (w : World) :
    (results fn tmps).run P w = .ok (.tuple #[tmps.getD t undef, tmps.getD u undef, tmps.getD v undef, tmps.getD x undef]) w := by simp [results, h]
def RetS (S : Nat → Prop) (w : World) (r : Option (UInt8 × List UInt8 × List UInt8)) (e : Ending) (w' : World) : Prop :=
  Below w.heap.size w w' ∧ match r with
  | none => e = .returned (.tuple #[.int .i64 0, .slice none 0 0, .slice none 0 0, .bool false])
  | some (t, i, r) => ∃ ai ci ar cr, e = .returned (.tuple #[.int .i64 (t.toNat : Int), .slice ai i.length ci, .slice ar r.length cr, .bool true]) ∧ Bs S w' (.slice ai i.length ci) i ∧ Bs S w' (.slice ar r.length cr) r
theorem RetS.no {S : Nat → Prop} {w w' : World} (h : Below w.heap.size w w') : RetS S w none (.returned (.tuple #[.int .i64 0, .slice none 0 0, .slice none 0 0, .bool false])) w' := ⟨h, rfl⟩
theorem RetS.yes {S : Nat → Prop} {w w' : World} {t : UInt8} {i r : List UInt8} {ai ar : Option Addr} {ci cr n m : Nat} (h : Below w.heap.size w w') (hn : i.length = n) (hm : r.length = m) (h1 : Bs S w' (.slice ai n ci) i) (h2 : Bs S w' (.slice ar m cr) r) :
    RetS S w (some (t, i, r)) (.returned (.tuple #[.int .i64 (t.toNat : Int), .slice ai n ci, .slice ar m cr, .bool true])) w' := by
  subst hn hm; exact ⟨h, _, _, _, _, rfl, h1, h2⟩
end Go.Proofs.YtdbpkiddiehliaaGreat
/- tlv's read: the value that bytes begin with. -/
namespace Go.Proofs.YtdbpkiddiehliaaGreat
open Go Go.RowKit
/-- Blocks of S are old. -/
def SB (S : Nat → Prop) (w : World) : Prop := ∀ k, S k → k < w.heap.size
theorem SB.ok {S : Nat → Prop} {w w' : World} (h : SB S w) : Sok S w w' := fun k hk _ hs => by have := h k hs; omega
theorem SB.later {S : Nat → Prop} {w w' : World} (h : SB S w) (hl : w.heap.size ≤ w'.heap.size) : SB S w' := fun k hk => Nat.lt_of_lt_of_le (h k hk) hl
/-- S, and all that is new. -/
def SN (S : Nat → Prop) (w : World) (k : Nat) : Prop := S k ∨ w.heap.size ≤ k
/-- What read answers. -/
def RetR (S : Nat → Prop) (w : World) (r : Option (TV × List UInt8)) (e : Ending) (w' : World) : Prop :=
  Below w.heap.size w w' ∧ match r with
  | none => e = .returned (.tuple #[.agg #[.int .i64 0, .int .u64 0, .slice none 0 0, .slice none 0 0], .slice none 0 0, .bool false])
  | some (v, r) => ∃ x ar cr, e = .returned (.tuple #[x, .slice ar r.length cr, .bool true]) ∧ TVv S w' v x ∧ Bs (SN S w) w' (.slice ar r.length cr) r
theorem RetR.no {S : Nat → Prop} {w w' : World} (h : Below w.heap.size w w') : RetR S w none (.returned (.tuple #[.agg #[.int .i64 0, .int .u64 0, .slice none 0 0, .slice none 0 0], .slice none 0 0, .bool false])) w' := ⟨h, rfl⟩
theorem RetR.yes {S : Nat → Prop} {w w' : World} {v : TV} {x : Value} {r : List UInt8} {ar : Option Addr} {cr : Nat} (h : Below w.heap.size w w') (h1 : TVv S w' v x) (h2 : Bs (SN S w) w' (.slice ar r.length cr) r) :
    RetR S w (some (v, r)) (.returned (.tuple #[x, .slice ar r.length cr, .bool true])) w' := ⟨h, _, _, _, rfl, h1, h2⟩
section
variable {P : Program}
/-- Three results, the first one a struct in memory. -/
theorem results_ctt {fn : Func} {p u v : Tmp} {ty : TypeId} (h : fn.results = #[.cell p ty, .tmp u, .tmp v]) (tmps : Array Value) (w : World) (g : Nat) (t : TypeId) (cs : Array Value) (fr : Nat × Nat) (d : TypeDesc)
    (hp : tmps.getD p undef = .pointer (some ⟨g, 0, none⟩)) (hg : w.heap[g]? = some (.cells cs t fr))
    (hu : P.underlying ty = some d) (hd : (match d with | .struct _ | .array _ _ => true | _ => false) = true) (hi : (P.info? ty).map (·.size) = some cs.size) :
    (results fn tmps).run P w = .ok (.tuple #[.agg cs, tmps.getD u undef, tmps.getD v undef]) w := by
  have hp' : tmps[p]?.getD undef = .pointer (some ⟨g, 0, none⟩) := by simpa using hp
  simp [results, h, hp', asAddr, run_loadVar_row w g t ty cs fr d hg hu hd hi]
/-- Two results, the first one a struct in memory. -/
theorem results_ct {fn : Func} {p u : Tmp} {ty : TypeId} (h : fn.results = #[.cell p ty, .tmp u]) (tmps : Array Value) (w : World) (g : Nat) (t : TypeId) (cs : Array Value) (fr : Nat × Nat) (d : TypeDesc)
    (hp : tmps.getD p undef = .pointer (some ⟨g, 0, none⟩)) (hg : w.heap[g]? = some (.cells cs t fr))
    (hu : P.underlying ty = some d) (hd : (match d with | .struct _ | .array _ _ => true | _ => false) = true) (hi : (P.info? ty).map (·.size) = some cs.size) :
    (results fn tmps).run P w = .ok (.tuple #[.agg cs, tmps.getD u undef]) w := by
  have hp' : tmps[p]?.getD undef = .pointer (some ⟨g, 0, none⟩) := by simpa using hp
  simp [results, h, hp', asAddr, run_loadVar_row w g t ty cs fr d hg hu hd hi]
end
theorem Bs.new {S S0 : Nat → Prop} {w w' : World} {v : Value} {xs : List UInt8} (h : Bs S w v xs) (hf : Fr S0 w w') (h0 : ∀ k, k < w.heap.size → S0 k → S k) : Bs (SN S w) w' v xs :=
  h.shift hf h0 (fun k hk hs => hs.elim id (fun hl => absurd hk (by omega)))
theorem Bs.old {S : Nat → Prop} {w w' : World} {v : Value} {xs : List UInt8} (h : Bs (SN S w) w' v xs) : Bs S w' v xs := h.mono (fun _ _ hs => .inl hs)
end Go.Proofs.YtdbpkiddiehliaaGreat
/- tlv's read of a number. -/
namespace Go.Proofs.YtdbpkiddiehliaaGreat
open Go Go.RowKit
theorem or_u64 (x : Nat) (y : UInt8) (h : x < 72057594037927936) : bits .or .u64 ((x : Int) * 256) (y.toNat : Int) = ((x * 256 + y.toNat : Nat) : Int) := by
  have hy := y.toNat_lt
  have h1 : (BitVec.ofInt 64 ((x : Int) * 256)).toNat = x * 256 := by
    rw [show ((x : Int) * 256) = ((x * 256 : Nat) : Int) by omega, BitVec.ofInt_natCast, BitVec.toNat_ofNat]; omega
  have h2 : (BitVec.ofInt 64 (y.toNat : Int)).toNat = y.toNat := by rw [BitVec.ofInt_natCast, BitVec.toNat_ofNat]; omega
  show IntKind.u64.wrap ((BitVec.ofInt 64 ((x : Int) * 256) ||| BitVec.ofInt 64 (y.toNat : Int)).toNat : Int) = _
  rw [BitVec.toNat_or, h1, h2]
  have h3 : x * 256 ||| y.toNat = x * 256 + y.toNat := by
    rw [show x * 256 = 2 ^ 8 * x by omega, Nat.two_pow_add_eq_or_of_lt (by omega)]
  rw [h3]
  simp [IntKind.wrap, IntKind.signed, IntKind.bits]; omega
theorem bytesNum_snoc (l : List UInt8) (k : Nat) (h : k < l.length) : bytesNum (l.take (k + 1)) = bytesNum (l.take k) * 256 + l[k].toNat := by
  rw [List.take_succ_eq_append_getElem h, bytesNum, List.foldl_append]; rfl
theorem bytesNum_lt (l : List UInt8) (k : Nat) : bytesNum (l.take k) < 256 ^ k := by
  induction k with
  | zero => simp [bytesNum]
  | succ k ih =>
    by_cases h : k < l.length
    · rw [bytesNum_snoc l k h, Nat.pow_succ]
      have := l[k].toNat_lt
      have : bytesNum (l.take k) + 1 ≤ 256 ^ k := ih
      have := Nat.mul_le_mul_right 256 this
      omega
    · rw [List.take_of_length_le (by omega)] at ih ⊢
      rw [Nat.pow_succ]; omega
end Go.Proofs.YtdbpkiddiehliaaGreat
