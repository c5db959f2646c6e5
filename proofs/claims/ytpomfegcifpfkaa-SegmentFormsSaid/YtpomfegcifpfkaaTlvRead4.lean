/- tlv's split: tag, what is in a form, what is behind it. -/
import Derived.Test.YtpomfegcifpfkaaTlvPut
namespace Go.Proofs.Ytpomfegcifpfkaa
open Go Go.RowKit
theorem Bs.sub {S : Nat → Prop} {w : World} {b off c c' n : Nat} {xs ys : List UInt8} (h : Bs S w (.slice (some ⟨b, off, none⟩) xs.length c) xs) (lo : Nat) (hn : ys.length = n) (hc : n ≤ c') (hc' : c' ≤ c) (hy : ∀ i y, ys[i]? = some y → xs[lo + i]? = some y) (hl : n ≤ xs.length) :
    Bs S w (.slice (some ⟨b, off + lo, none⟩) n c') ys := by
  obtain ⟨a, c1, h1, h2, h3', h4⟩ := h
  injection h1 with e1 _ e3
  subst e1 e3
  refine ⟨some ⟨b, off + lo, none⟩, c', by rw [hn], ⟨by omega, by have := h2.2.1; omega, by have := h2.2.2; omega⟩, (fun h => nomatch h), ?_⟩
  rcases h4 with h4 | ⟨b', off', e1, e2, e3, e4⟩
  · subst h4
    simp only [List.length_nil] at hl
    exact .inl (List.eq_nil_of_length_eq_zero (by omega))
  · injection e1 with e1
    injection e1 with e1 e5 _
    subst e1 e5
    exact .inr ⟨b, off + lo, rfl, e2, e3, fun i y hy' => by rw [Nat.add_assoc]; exact e4 _ y (hy i y hy')⟩
theorem Bs.empty (S : Nat → Prop) (w : World) (a : Addr) (c : Nat) (hc : c ≤ maxLen) : Bs S w (.slice (some a) 0 c) [] := ⟨some a, c, rfl, ⟨Nat.zero_le _, Nat.zero_le _, hc⟩, (fun h => nomatch h), .inl rfl⟩
theorem or_bytes (x y : UInt8) : bits .or .i64 ((x.toNat : Int) * 256) (y.toNat : Int) = ((x.toNat * 256 + y.toNat : Nat) : Int) := by
  have hx := x.toNat_lt
  have hy := y.toNat_lt
  have h1 : (BitVec.ofInt 64 ((x.toNat : Int) * 256)).toNat = x.toNat * 256 := by
    rw [show ((x.toNat : Int) * 256) = ((x.toNat * 256 : Nat) : Int) by omega, BitVec.ofInt_natCast, BitVec.toNat_ofNat]; omega
  have h2 : (BitVec.ofInt 64 (y.toNat : Int)).toNat = y.toNat := by rw [BitVec.ofInt_natCast, BitVec.toNat_ofNat]; omega
  show IntKind.i64.wrap ((BitVec.ofInt 64 ((x.toNat : Int) * 256) ||| BitVec.ofInt 64 (y.toNat : Int)).toNat : Int) = _
  rw [BitVec.toNat_or, h1, h2]
  have h3 : x.toNat * 256 ||| y.toNat = x.toNat * 256 + y.toNat := by
    rw [show x.toNat * 256 = 2 ^ 8 * x.toNat by omega, Nat.two_pow_add_eq_or_of_lt (by omega)]
  rw [h3, IntKind.wrap_i64]; omega
theorem results_tmp4' {fn : Func} {t u v x : Tmp} (h : fn.results = #[.tmp t, .tmp u, .tmp v, .tmp x]) (tmps : Array Value) (P : Program) (w : World) :
    (results fn tmps).run P w = .ok (.tuple #[tmps.getD t undef, tmps.getD u undef, tmps.getD v undef, tmps.getD x undef]) w := by simp [results, h]
def RetS (S : Nat → Prop) (w : World) (r : Option (UInt8 × List UInt8 × List UInt8)) (e : Ending) (w' : World) : Prop :=
  Below w.heap.size w w' ∧ match r with
  | none => e = .returned (.tuple #[.int .i64 0, .slice none 0 0, .slice none 0 0, .bool false])
  | some (t, i, r) => ∃ ai ci ar cr, e = .returned (.tuple #[.int .i64 (t.toNat : Int), .slice ai i.length ci, .slice ar r.length cr, .bool true]) ∧ Bs S w' (.slice ai i.length ci) i ∧ Bs S w' (.slice ar r.length cr) r
theorem RetS.no {S : Nat → Prop} {w w' : World} (h : Below w.heap.size w w') : RetS S w none (.returned (.tuple #[.int .i64 0, .slice none 0 0, .slice none 0 0, .bool false])) w' := ⟨h, rfl⟩
theorem RetS.yes {S : Nat → Prop} {w w' : World} {t : UInt8} {i r : List UInt8} {ai ar : Option Addr} {ci cr n m : Nat} (h : Below w.heap.size w w') (hn : i.length = n) (hm : r.length = m) (h1 : Bs S w' (.slice ai n ci) i) (h2 : Bs S w' (.slice ar m cr) r) :
    RetS S w (some (t, i, r)) (.returned (.tuple #[.int .i64 (t.toNat : Int), .slice ai n ci, .slice ar m cr, .bool true])) w' := by
  subst hn hm; exact ⟨h, _, _, _, _, rfl, h1, h2⟩
set_option maxRecDepth 100000 in
set_option maxHeartbeats 1000000 in
theorem split_ok {S : Nat → Prop} (v : Value) (xs : List UInt8) (w : World) (hb : Bs S w v xs) : Calls Try.prog 60 #[v] w (RetS S w (splitF xs)) := by
  have HB := hid hb
  obtain ⟨a, c, rfl, ⟨hlc, hlim, hcm⟩, _, h4⟩ := hb
  unfold maxLen at hcm
  match xs, h4 with
  | [], _ =>
    rw [show splitF [] = none from rfl]
    go_enter Try.func60, Try.ntmps60
    go_wp2
    refine bodyPost_ret (results_tmp4' rfl _ _ _) rfl (RetS.no (Below.refl _ _))
  | [p], _ =>
    rw [show splitF [p] = none from rfl]
    go_enter Try.func60, Try.ntmps60
    go_wp2
    refine bodyPost_ret (results_tmp4' rfl _ _ _) rfl (RetS.no (Below.refl _ _))
  | [p, q], _ =>
    rw [show splitF [p, q] = none from rfl]
    go_enter Try.func60, Try.ntmps60
    go_wp2
    refine bodyPost_ret (results_tmp4' rfl _ _ _) rfl (RetS.no (Below.refl _ _))
  | t :: x :: y :: r, h4 =>
    rcases h4 with h | ⟨b, off, ha, hbl, hS, hcell⟩
    · cases h
    subst ha
    have k0 := hcell 0 t rfl
    have k1 := hcell 1 x rfl
    have k2 := hcell 2 y rfl
    rw [Nat.add_zero] at k0
    have ho := or_bytes x y
    have hx := u8_lt x
    have ht := u8_lt t
    have ht0 : (0 : Int) ≤ (t.toNat : Int) := by omega
    have hy := u8_lt y
    have HL := hid (show (t :: x :: y :: r).length = r.length + 3 from rfl)
    have hl : (t :: x :: y :: r).length = r.length + 3 := rfl
    rw [hl] at hlc hlim ⊢
    clear hcell hl
    have HF := hid (show splitF (t :: x :: y :: r) = if x.toNat * 256 + y.toNat ≤ r.length then some (t, r.take (x.toNat * 256 + y.toNat), r.drop (x.toNat * 256 + y.toNat)) else none from rfl)
    rw [HF.out]
    generalize hn : x.toNat * 256 + y.toNat = n at *
    have HN := hid hn
    clear hn
    by_cases hnr : n ≤ r.length
    · rw [if_pos hnr]
      go_enter Try.func60, Try.ntmps60
      go_wp2
      go_quiet (fail)
      go_wp2
      have q1 : IntKind.i64.wrap (3 + (n : Int)) = 3 + (n : Int) := IntWalk.i64_in _ (by omega)
      have q2 : (0 : Int) ≤ 3 + (n : Int) := by omega
      have q3 : (3 + (n : Int)).toNat = 3 + n := by omega
      have q4 : 3 + n ≤ c := by omega
      have q5 : 3 + n ≤ r.length + 3 := by omega
      have q6 : (3 : Int) ≤ 3 + (n : Int) := by omega
      have q7 : 3 + (n : Int) ≤ (c : Int) := by omega
      have q8 : 3 + (n : Int) ≤ (r.length : Int) + 3 := by omega
      go_quiet (fail)
      go_wp2
      · obtain rfl : r = [] := List.eq_nil_of_length_eq_zero (by omega)
        exact bodyPost_ret (results_tmp4' rfl _ _ _) rfl (RetS.yes (below_dN (Below.refl _ _) _) rfl rfl (Bs.empty _ _ _ _ (by unfold maxLen; omega)) (Bs.empty _ _ _ _ (by unfold maxLen; omega)))
      · have hr0 : r.drop n = [] := List.drop_eq_nil_of_le (by omega)
        rw [hr0]
        have hBw := fun m => HB.out.fr (Fr.of_below (S := fun _ => False) (below_dN (Below.refl w.heap.size w) m)) (fun _ _ h => h.elim)
        refine bodyPost_ret (results_tmp4' rfl _ _ _) rfl (RetS.yes (below_dN (Below.refl _ _) _) (by simp; omega) (by simp; omega) (Bs.sub (hBw _) 3 (by simp; omega) (by omega) (by omega) (fun i y hy => ?_) (by simp; omega)) ?_)
        · have hi : i < n := by have := (List.getElem?_eq_some_iff.1 hy).1; simp at this; omega
          rw [List.getElem?_take_of_lt hi] at hy
          rw [Nat.add_comm]; exact hy
        · rw [show r.length + 3 - (3 + n) = 0 by omega]
          exact Bs.empty _ _ _ _ (by unfold maxLen; omega)
      · have hBw := fun m => HB.out.fr (Fr.of_below (S := fun _ => False) (below_dN (Below.refl w.heap.size w) m)) (fun _ _ h => h.elim)
        refine bodyPost_ret (results_tmp4' rfl _ _ _) rfl (RetS.yes (below_dN (Below.refl _ _) _) (by simp; omega) (by simp; omega) (Bs.sub (hBw _) 3 (by simp; omega) (by omega) (by omega) (fun i y hy => ?_) (by simp; omega)) (Bs.sub (hBw _) (3 + n) (by rw [List.length_drop]; omega) (by omega) (by omega) (fun i y hy => ?_) (by simp only [List.length_cons]; omega)))
        · have hi : i < n := by have := (List.getElem?_eq_some_iff.1 hy).1; simp at this; omega
          rw [List.getElem?_take_of_lt hi] at hy
          rw [Nat.add_comm]; exact hy
        · rw [List.getElem?_drop] at hy
          rw [show 3 + n + i = (n + i) + 3 by omega]; exact hy
    · rw [if_neg hnr]
      go_enter Try.func60, Try.ntmps60
      go_wp2
      go_quiet (fail)
      go_wp2
      refine bodyPost_ret (results_tmp4' rfl _ _ _) rfl (RetS.no (below_dN (Below.refl _ _) _))
end Go.Proofs.Ytpomfegcifpfkaa
/- tlv's read: the value that bytes begin with. -/
namespace Go.Proofs.Ytpomfegcifpfkaa
open Go Go.RowKit
/-- Blocks of S are old. -/
def SB (S : Nat → Prop) (w : World) : Prop := ∀ k, S k → k < w.heap.size
theorem SB.ok {S : Nat → Prop} {w w' : World} (h : SB S w) : Sok S w w' := fun k hk _ hs => by have := h k hs; omega
theorem SB.later {S : Nat → Prop} {w w' : World} (h : SB S w) (hl : w.heap.size ≤ w'.heap.size) : SB S w' := fun k hk => Nat.lt_of_lt_of_le (h k hk) hl
/-- S, and all that is new. -/
def SN (S : Nat → Prop) (w : World) (k : Nat) : Prop := S k ∨ w.heap.size ≤ k
/-- What read answers. -/
def RetR (S : Nat → Prop) (w : World) (r : Option (TV × List UInt8)) (e : Ending) (w' : World) : Prop :=
  Below w.heap.size w w' ∧ match r with
  | none => e = .returned (.tuple #[.agg #[.int .i64 0, .int .u64 0, .slice none 0 0, .slice none 0 0], .slice none 0 0, .bool false])
  | some (v, r) => ∃ x ar cr, e = .returned (.tuple #[x, .slice ar r.length cr, .bool true]) ∧ TVv S w' v x ∧ Bs (SN S w) w' (.slice ar r.length cr) r
theorem RetR.no {S : Nat → Prop} {w w' : World} (h : Below w.heap.size w w') : RetR S w none (.returned (.tuple #[.agg #[.int .i64 0, .int .u64 0, .slice none 0 0, .slice none 0 0], .slice none 0 0, .bool false])) w' := ⟨h, rfl⟩
theorem RetR.yes {S : Nat → Prop} {w w' : World} {v : TV} {x : Value} {r : List UInt8} {ar : Option Addr} {cr : Nat} (h : Below w.heap.size w w') (h1 : TVv S w' v x) (h2 : Bs (SN S w) w' (.slice ar r.length cr) r) :
    RetR S w (some (v, r)) (.returned (.tuple #[x, .slice ar r.length cr, .bool true])) w' := ⟨h, _, _, _, rfl, h1, h2⟩
set_option maxRecDepth 100000 in
set_option maxHeartbeats 1000000 in
theorem read_short {S : Nat → Prop} (d : Nat) (b : Value) (xs : List UInt8) (w : World) (hb : Bs S w b xs) (hsp : splitF xs = none) :
    Calls Try.prog 52 #[b, .int .i64 (d : Int)] w (RetR S w none) := by
  have HS := hid (show ∀ w', Bs S w' b xs → Calls Try.prog 60 #[b] w' (RetS S w' none) from fun w' h => hsp ▸ split_ok b xs w' h)
  have HB := hid hb
  clear hb hsp
  go_enter Try.func52, Try.ntmps52
  go_wp2_with (go_at_call 60; refine (HS.out _ (HB.out.fr ((Fr.refl (fun _ => False) w).alloc _) (fun _ _ h => h.elim))).mono ?_; rintro e w1 ⟨hb1, rfl⟩; obtain ⟨hc1, hf1⟩ := wold hb1; have hsz1 : w.heap.size < w1.heap.size := (by have := hb1.size; simp at this; omega))
  have hB : Below w.heap.size w w1 := ((Below.refl _ _).alloc (Nat.le_refl _) _).trans (hb1.mono (by simp))
  refine bodyPost_ret (v := .tuple #[.agg #[.int .i64 0, .int .u64 0, .slice none 0 0, .slice none 0 0], .slice none 0 0, .bool false]) (by simp [results, Try.results52, go_sem, hc1]) rfl (RetR.no ?_)
  exact (((hB.setCell (Nat.le_refl _) _).setCell (Nat.le_refl _) _).setCell (Nat.le_refl _) _).setCell (Nat.le_refl _) _
section
variable {P : Program}
/-- Three results, the first one a struct in memory. -/
theorem results_ctt {fn : Func} {p u v : Tmp} {ty : TypeId} (h : fn.results = #[.cell p ty, .tmp u, .tmp v]) (tmps : Array Value) (w : World) (g : Nat) (t : TypeId) (cs : Array Value) (fr : Nat × Nat) (d : TypeDesc)
    (hp : tmps.getD p undef = .pointer (some ⟨g, 0, none⟩)) (hg : w.heap[g]? = some (.cells cs t fr))
    (hu : P.underlying ty = some d) (hd : (match d with | .struct _ | .array _ _ => true | _ => false) = true) (hi : (P.info? ty).map (·.size) = some cs.size) :
    (results fn tmps).run P w = .ok (.tuple #[.agg cs, tmps.getD u undef, tmps.getD v undef]) w := by
  have hp' : tmps[p]?.getD undef = .pointer (some ⟨g, 0, none⟩) := by simpa using hp
  simp [results, h, hp', asAddr, run_loadVar_row w g t ty cs fr d hg hu hd hi]
/-- Two results, the first one a struct in memory. -/
theorem results_ct {fn : Func} {p u : Tmp} {ty : TypeId} (h : fn.results = #[.cell p ty, .tmp u]) (tmps : Array Value) (w : World) (g : Nat) (t : TypeId) (cs : Array Value) (fr : Nat × Nat) (d : TypeDesc)
    (hp : tmps.getD p undef = .pointer (some ⟨g, 0, none⟩)) (hg : w.heap[g]? = some (.cells cs t fr))
    (hu : P.underlying ty = some d) (hd : (match d with | .struct _ | .array _ _ => true | _ => false) = true) (hi : (P.info? ty).map (·.size) = some cs.size) :
    (results fn tmps).run P w = .ok (.tuple #[.agg cs, tmps.getD u undef]) w := by
  have hp' : tmps[p]?.getD undef = .pointer (some ⟨g, 0, none⟩) := by simpa using hp
  simp [results, h, hp', asAddr, run_loadVar_row w g t ty cs fr d hg hu hd hi]
end
theorem Bs.new {S S0 : Nat → Prop} {w w' : World} {v : Value} {xs : List UInt8} (h : Bs S w v xs) (hf : Fr S0 w w') (h0 : ∀ k, k < w.heap.size → S0 k → S k) : Bs (SN S w) w' v xs :=
  h.shift hf h0 (fun k hk hs => hs.elim id (fun hl => absurd hk (by omega)))
theorem Bs.old {S : Nat → Prop} {w w' : World} {v : Value} {xs : List UInt8} (h : Bs (SN S w) w' v xs) : Bs S w' v xs := h.mono (fun _ _ hs => .inl hs)
set_option maxRecDepth 100000 in
set_option maxHeartbeats 1000000 in
theorem read_bytes {S : Nat → Prop} (d : Nat) (b : Value) (xs : List UInt8) (w : World) (hb : Bs S w b xs) (hSB : SB S w) (t : UInt8) (i r : List UInt8) (hsp : splitF xs = some (t, i, r)) (ht : t.toNat = 2) :
    Calls Try.prog 52 #[b, .int .i64 (d : Int)] w (RetR S w (some (.mk 2 0 i [], r))) := by
  have HS := hid (show ∀ w', Bs (SN S w) w' b xs → Calls Try.prog 60 #[b] w' (RetS (SN S w) w' (some (t, i, r))) from fun w' h => hsp ▸ split_ok b xs w' h)
  have HB := hid hb
  have ht' : (t.toNat : Int) = 2 := by omega
  clear hb hsp ht
  go_enter Try.func52, Try.ntmps52
  go_wp2_with (first | (go_at_call 60; refine (HS.out _ (HB.out.new ((Fr.refl (fun _ => False) w).alloc _) (fun _ _ h => h.elim))).mono ?_; rintro e w1 ⟨hb1, ai, ci, ar, cr, rfl, hbi, hbr⟩; obtain ⟨hc1, hf1⟩ := wold hb1; have hsz1 : w.heap.size < w1.heap.size := (by have := hb1.size; simp at this; omega)) | (go_at_call 48; refine (cloneB_ok (S := SN S w) _ i _ (hbi.fr ((Fr.refl (· = w.heap.size) w1).set1 _ _) (fun k hk h => .inr (by omega)))).mono ?_; rintro e w2 ⟨v2, rfl, ho2, hb2⟩; obtain ⟨a2, c2, rfl, _⟩ := ho2.len; obtain ⟨hc2, hf2⟩ := wold hb2; have hsz2 : w.heap.size < w2.heap.size := (by have := hb2.size; simp [World.setCell] at this; omega)))
  have hB : Below w.heap.size w w1 := ((Below.refl _ _).alloc (Nat.le_refl _) _).trans (hb1.mono (by simp))
  have hB2 : Below w.heap.size w w2 := (hB.setCell (p := ⟨w.heap.size, 0, none⟩) (Nat.le_refl _) _).trans (hb2.mono (by have := hB.size; simp [World.setCell]; omega))
  have hx1 : w1.heap[w.heap.size]? = some (.cells #[.int .i64 0, .int .u64 0, .slice none 0 0, .slice none 0 0] 74 (0, 0)) := by
    rw [hb1.block _ (by simp)]; exact heap_alloc_new w _
  have hx2 : w2.heap[w.heap.size]? = some (.cells #[.int .i64 2, .int .u64 0, .slice none 0 0, .slice none 0 0] 74 (0, 0)) := by
    rw [hb2.block _ (by simp [World.setCell]; omega)]; exact heap_store hx1 0 _
  have hx3 := heap_store (heap_store (heap_store (heap_store (heap_store hx2 2 (.slice a2 i.length c2)) 0 (.int .i64 2)) 1 (.int .u64 0)) 2 (.slice a2 i.length c2)) 3 (.slice none 0 0)
  have hF : Fr (· = w.heap.size) w2 (((((w2.setCell ⟨w.heap.size, 2, none⟩ (.slice a2 i.length c2)).setCell ⟨w.heap.size, 0, none⟩ (.int .i64 2)).setCell ⟨w.heap.size, 1, none⟩ (.int .u64 0)).setCell ⟨w.heap.size, 2, none⟩ (.slice a2 i.length c2)).setCell ⟨w.heap.size, 3, none⟩ (.slice none 0 0)) :=
    (((((Fr.refl (· = w.heap.size) w2).set1 _ _).set1 _ _).set1 _ _).set1 _ _).set1 _ _
  have hB3 : Below w.heap.size w (((((w2.setCell ⟨w.heap.size, 2, none⟩ (.slice a2 i.length c2)).setCell ⟨w.heap.size, 0, none⟩ (.int .i64 2)).setCell ⟨w.heap.size, 1, none⟩ (.int .u64 0)).setCell ⟨w.heap.size, 2, none⟩ (.slice a2 i.length c2)).setCell ⟨w.heap.size, 3, none⟩ (.slice none 0 0)) := Below.fr hB2 hF (fun i hi e => by omega)
  have ho3 : OwnB _ _ _ _ := Own.fr ho2 hF (fun k hk he => by have := (Own.mine_ge ho2 hk).1; simp [World.setCell] at this; omega)
  have hr3 := ((hbr.fr ((Fr.refl (· = w.heap.size) w1).set1 0 (.int .i64 2)) (fun k hk h => .inr (by omega))).fr (Fr.of_below (S := fun _ => False) hb2) (fun _ _ h => h.elim)).fr hF (fun k hk h => .inr (by omega))
  refine bodyPost_ret (results_ctt rfl _ _ w.heap.size _ _ _ _ rfl hx3 Try.underlying74 rfl (by kernel_rfl)) rfl (RetR.yes hB3 ⟨_, _, _, _, rfl, ?_⟩ hr3)
  rw [TVr]
  exact ⟨by omega, _, _, [], rfl, ho3.bs (fun k hk _ hs => by have := hSB k hs; simp [World.setCell] at hk; omega), ⟨rfl, none, 0, rfl, ⟨Nat.le_refl _, Nat.zero_le _, Nat.zero_le _⟩, fun _ => rfl, .inl rfl⟩, by rw [TVch]⟩
end Go.Proofs.Ytpomfegcifpfkaa
/- tlv's read of a number. -/
namespace Go.Proofs.Ytpomfegcifpfkaa
open Go Go.RowKit
theorem or_u64 (x : Nat) (y : UInt8) (h : x < 72057594037927936) : bits .or .u64 ((x : Int) * 256) (y.toNat : Int) = ((x * 256 + y.toNat : Nat) : Int) := by
  have hy := y.toNat_lt
  have h1 : (BitVec.ofInt 64 ((x : Int) * 256)).toNat = x * 256 := by
    rw [show ((x : Int) * 256) = ((x * 256 : Nat) : Int) by omega, BitVec.ofInt_natCast, BitVec.toNat_ofNat]; omega
  have h2 : (BitVec.ofInt 64 (y.toNat : Int)).toNat = y.toNat := by rw [BitVec.ofInt_natCast, BitVec.toNat_ofNat]; omega
  show IntKind.u64.wrap ((BitVec.ofInt 64 ((x : Int) * 256) ||| BitVec.ofInt 64 (y.toNat : Int)).toNat : Int) = _
  rw [BitVec.toNat_or, h1, h2]
  have h3 : x * 256 ||| y.toNat = x * 256 + y.toNat := by
    rw [show x * 256 = 2 ^ 8 * x by omega, Nat.two_pow_add_eq_or_of_lt (by omega)]
  rw [h3]
  simp [IntKind.wrap, IntKind.signed, IntKind.bits]; omega
theorem bytesNum_snoc (l : List UInt8) (k : Nat) (h : k < l.length) : bytesNum (l.take (k + 1)) = bytesNum (l.take k) * 256 + l[k].toNat := by
  rw [List.take_succ_eq_append_getElem h, bytesNum, List.foldl_append]; rfl
theorem bytesNum_lt (l : List UInt8) (k : Nat) : bytesNum (l.take k) < 256 ^ k := by
  induction k with
  | zero => simp [bytesNum]
  | succ k ih =>
    by_cases h : k < l.length
    · rw [bytesNum_snoc l k h, Nat.pow_succ]
      have := l[k].toNat_lt
      have : bytesNum (l.take k) + 1 ≤ 256 ^ k := ih
      have := Nat.mul_le_mul_right 256 this
      omega
    · rw [List.take_of_length_le (by omega)] at ih ⊢
      rw [Nat.pow_succ]; omega
set_option maxRecDepth 100000 in
set_option maxHeartbeats 2000000 in
theorem read_num {S : Nat → Prop} (d : Nat) (b : Value) (xs : List UInt8) (w : World) (hb : Bs S w b xs) (t : UInt8) (i r : List UInt8) (hsp : splitF xs = some (t, i, r)) (ht : t.toNat = 1) (h8 : i.length ≤ 8) (h0 : i.head? ≠ some 0) :
    Calls Try.prog 52 #[b, .int .i64 (d : Int)] w (RetR S w (some (.mk 1 (bytesNum i) [] [], r))) := by
  have HS := hid (show ∀ w', Bs (SN S w) w' b xs → Calls Try.prog 60 #[b] w' (RetS (SN S w) w' (some (t, i, r))) from fun w' h => hsp ▸ split_ok b xs w' h)
  have HB := hid hb
  have ht' : (t.toNat : Int) = 1 := by omega
  clear hb hsp ht
  have H0 := hid h0
  clear h0
  go_enter Try.func52, Try.ntmps52
  go_upto_block 0 with (go_at_call 60; refine (HS.out _ (HB.out.new ((Fr.refl (fun _ => False) w).alloc _) (fun _ _ h => h.elim))).mono ?_; rintro e w1 ⟨hb1, ai, ci, ar, cr, rfl, hbi, hbr⟩; obtain ⟨hc1, hf1⟩ := wold hb1; have hsz1 : w.heap.size < w1.heap.size := (by have := hb1.size; simp at this; omega))
  have hB : Below w.heap.size w w1 := ((Below.refl _ _).alloc (Nat.le_refl _) _).trans (hb1.mono (by simp))
  have hx1 : w1.heap[w.heap.size]? = some (.cells #[.int .i64 0, .int .u64 0, .slice none 0 0, .slice none 0 0] 74 (0, 0)) := by
    rw [hb1.block _ (by simp)]; exact heap_alloc_new w _
  have hxt := heap_store hx1 0 (.int .i64 1)
  have hFt := (Fr.refl (· = w.heap.size) w1).set1 0 (.int .i64 1)
  generalize w1.setCell ⟨w.heap.size, 0, none⟩ (.int .i64 1) = wt at *
  have hbt := hbi.fr hFt (fun k hk h => .inr (by omega))
  have hrt := hbr.fr hFt (fun k hk h => .inr (by omega))
  have hBt : Below w.heap.size w wt := Below.fr hB hFt (fun i hi e => by omega)
  have HBT := hid hbt
  have HRT := hid hrt
  have HXT := hid hxt
  have HBE := hid hBt
  obtain ⟨_, _, hsl, ⟨hf1a, hf2a, hf3a⟩, _, h4⟩ := hbt
  injection hsl with e1 _ e3
  subst e1 e3
  unfold maxLen at hf3a
  have H4 := hid h4
  clear hrt hBt hxt hFt hx1 hB hc1 hf1 hb1 hbi hbr h4
  have hle8 : decide ((i.length : Int) ≤ 8) = true := by simp; omega
  have hcase : ((i.length : Int) == 0) = true ∨ (((i.length : Int) == 0) = false ∧ ∃ c0 : Int, (c0 != 0) = true ∧ ∃ blk off, ai = some ⟨blk, off, none⟩ ∧ wt.cell? ⟨blk, off, none⟩ = some (.int .u8 c0) ∧ 0 < (i.length : Int)) := by
    cases i with
    | nil => exact .inl rfl
    | cons c0 i =>
      refine .inr ⟨by simp only [List.length_cons, beq_eq_false_iff_ne, ne_eq]; omega, (c0.toNat : Int), ?_, ?_⟩
      · have := H0.out
        simp only [List.head?_cons, ne_eq, Option.some.injEq] at this
        simp only [bne_iff_ne, ne_eq]
        intro hh
        exact this (UInt8.toNat_inj.1 (by simpa using hh))
      · rcases H4.out with h | ⟨blk, off, ha, _, _, hc⟩
        · cases h
        · exact ⟨blk, off, ha, by have := hc 0 c0 rfl; rwa [Nat.add_zero] at this, by simp only [List.length_cons]; omega⟩
  rcases hcase with hz | ⟨hz, c0, hc0, blk, off, rfl, hcell, hpos⟩
  all_goals
    go_wp2
    go_loopw [10, 46] (fun _ j wr => ∃ k : Nat, k ≤ i.length ∧ j = .int .i64 ((k : Nat) : Int) ∧ wr.heap[w.heap.size]? = some (.cells #[.int .i64 1, .int .u64 ((bytesNum (i.take k) : Nat) : Int), .slice none 0 0, .slice none 0 0] 74 (0, 0)) ∧ Fr (· = w.heap.size) wt wr) (fun _ j _ => i.length - (intOf j).toNat)
    case atStart => exact ⟨0, by omega, rfl, by rw [List.take_zero]; exact HXT.out, Fr.refl _ _⟩
    case round =>
      obtain ⟨k, hk, rfl, hx, hF⟩ := hrel
      have b0 := cell_of_heap hx 0
      have b1 := cell_of_heap hx 1
      have b2 := cell_of_heap hx 2
      have b3 := cell_of_heap hx 3
      simp at b0 b1 b2 b3
      have z1 : wr.frozen? ⟨w.heap.size, 1, none⟩ = false := frozen_of_row wr _ 1 _ _ hx
      have z0 : wr.frozen? ⟨w.heap.size, 0, none⟩ = false := frozen_of_row wr _ 0 _ _ hx
      have z2 : wr.frozen? ⟨w.heap.size, 2, none⟩ = false := frozen_of_row wr _ 2 _ _ hx
      have z3 : wr.frozen? ⟨w.heap.size, 3, none⟩ = false := frozen_of_row wr _ 3 _ _ hx
      have hnl := bytesNum_lt i k
      have HX := hid hx
      clear hx
      by_cases hlt : k < i.length
      · have hsn := hid (bytesNum_snoc i k hlt)
        have hN56 : bytesNum (i.take k) < 72057594037927936 := by
          have : 256 ^ k ≤ 256 ^ 7 := Nat.pow_le_pow_right (by omega) (by omega)
          have h7 : (256 : Nat) ^ 7 = 72057594037927936 := rfl
          omega
        rcases H4.out with h | ⟨blk2, off2, ha, hbl2, hS2, hc⟩
        · rw [h] at hlt; simp at hlt
        have hcx : wr.cell? ⟨blk2, off2 + k, none⟩ = some (.int .u8 (i[k].toNat : Int)) := (hF.cell (p := ⟨blk2, off2 + k, none⟩) hbl2 (fun e => hS2 (.inr (by have e' : blk2 = w.heap.size := e; omega)))).trans (hc k _ (List.getElem?_eq_getElem hlt))
        have hcu := u8_lt i[k]
        have hor := or_u64 (bytesNum (i.take k)) i[k] hN56
        have hHS := hid (heap_store HX.out 1 (.int .u64 ((bytesNum (i.take k) * 256 + i[k].toNat : Nat) : Int)))
        have hdl : decide ((k : Int) < (i.length : Int)) = true := by simp; omega
        clear hc hnl
        generalize bytesNum (i.take k) = N at *
        generalize i[k].toNat = q at *
        generalize N * 256 + q = N2 at *
        first
          | (injection ha with ha; injection ha with hb1' hb2' _; subst hb1' hb2')
          | subst ha
        go_wp2
        go_roundw
        case rel => first | exact ⟨k + 1, by omega, by go_num, by rw [hsn.out]; exact hHS.out, hF.set1 _ _⟩ | ((repeat apply Exists.intro); refine ⟨?_, rfl⟩; exact ⟨k + 1, by omega, by go_num, by rw [hsn.out]; exact hHS.out, hF.set1 _ _⟩)
        case measure => simp [intOf]; omega
      · obtain rfl : k = i.length := by omega
        rw [List.take_length] at b1 HX
        have hN64 : bytesNum i < 18446744073709551616 := by
          rw [List.take_length] at hnl
          have : 256 ^ i.length ≤ 256 ^ 8 := Nat.pow_le_pow_right (by omega) h8
          have h7 : (256 : Nat) ^ 8 = 18446744073709551616 := rfl
          omega
        have HN := hid hN64
        clear hnl hN64
        generalize bytesNum i = N at *
        go_wp2
        have hx3 := heap_store (heap_store (heap_store (heap_store HX.out 0 (.int .i64 1)) 1 (.int .u64 (N : Int))) 2 (.slice none 0 0)) 3 (.slice none 0 0)
        have hF2 := (((hF.set1 0 (.int .i64 1)).set1 1 (.int .u64 (N : Int))).set1 2 (.slice none 0 0)).set1 3 (.slice none 0 0)
        refine bodyPost_ret (results_ctt rfl _ _ w.heap.size _ _ _ _ rfl hx3 Try.underlying74 rfl (by kernel_rfl)) rfl (RetR.yes (Below.fr HBE.out hF2 (fun i hi e => by omega)) ⟨_, _, _, _, rfl, ?_⟩ (HRT.out.fr hF2 (fun k hk h => .inr (by omega))))
        rw [TVr]
        exact ⟨HN.out, _, _, [], rfl, Bs.nil _ _, ⟨rfl, none, 0, rfl, ⟨Nat.le_refl _, Nat.zero_le _, Nat.zero_le _⟩, fun _ => rfl, .inl rfl⟩, by rw [TVch]⟩
end Go.Proofs.Ytpomfegcifpfkaa
/- tlv's read where there is no value. -/
namespace Go.Proofs.Ytpomfegcifpfkaa
open Go Go.RowKit
set_option maxRecDepth 100000 in
set_option maxHeartbeats 2000000 in
theorem read_else {S : Nat → Prop} (d : Nat) (b : Value) (xs : List UInt8) (w : World) (hb : Bs S w b xs) (t : UInt8) (i r : List UInt8) (hsp : splitF xs = some (t, i, r))
    (h1 : t.toNat = 1 → ¬ (i.length ≤ 8 ∧ i.head? ≠ some 0)) (h2 : t.toNat ≠ 2) (h3 : t.toNat = 3 → d = 0) :
    Calls Try.prog 52 #[b, .int .i64 (d : Int)] w (RetR S w none) := by
  have HS := hid (show ∀ w', Bs (SN S w) w' b xs → Calls Try.prog 60 #[b] w' (RetS (SN S w) w' (some (t, i, r))) from fun w' h => hsp ▸ split_ok b xs w' h)
  have HB := hid hb
  have H1 := hid h1
  have t2 : ((t.toNat : Int) == 2) = false := by simp only [beq_eq_false_iff_ne, ne_eq]; omega
  have hcase : ((t.toNat : Int) == 3) = false ∨ (((t.toNat : Int) == 3) = true ∧ d = 0) := by
    by_cases e : t.toNat = 3
    · exact .inr ⟨by simp only [beq_iff_eq]; omega, h3 e⟩
    · exact .inl (by simp only [beq_eq_false_iff_ne, ne_eq]; omega)
  clear hb hsp h1 h2 h3
  have htl := u8_lt t
  have hcase1 : ((t.toNat : Int) == 1) = false ∨ (((t.toNat : Int) == 1) = true ∧ (decide ((i.length : Int) ≤ 8) = false ∨ (decide ((i.length : Int) ≤ 8) = true ∧ i[0]? = some 0))) := by
    by_cases e : t.toNat = 1
    · refine .inr ⟨by simp only [beq_iff_eq]; omega, ?_⟩
      by_cases e8 : i.length ≤ 8
      · refine .inr ⟨by simp; omega, ?_⟩
        cases i with
        | nil => exact absurd ⟨e8, by simp⟩ (H1.out e)
        | cons c i =>
          by_cases ec : c = 0
          · rw [ec]; rfl
          · exact absurd ⟨e8, by simpa using ec⟩ (H1.out e)
      · exact .inl (by simp; omega)
    · exact .inl (by simp only [beq_eq_false_iff_ne, ne_eq]; omega)
  clear H1
  rcases hcase with hc3 | ⟨hc3, rfl⟩
  all_goals rcases hcase1 with hc1' | ⟨hc1', h8 | ⟨h8, hi0⟩⟩
  · skip
    go_enter Try.func52, Try.ntmps52
    go_upto_block 0 with (go_at_call 60; refine (HS.out _ (HB.out.new ((Fr.refl (fun _ => False) w).alloc _) (fun _ _ h => h.elim))).mono ?_; rintro e w1 ⟨hb1, ai, ci, ar, cr, rfl, hbi, hbr⟩; obtain ⟨hc1, hf1⟩ := wold hb1; have hsz1 : w.heap.size < w1.heap.size := (by have := hb1.size; simp at this; omega))
    have hB : Below w.heap.size w w1 := ((Below.refl _ _).alloc (Nat.le_refl _) _).trans (hb1.mono (by simp))
    have hx1 : w1.heap[w.heap.size]? = some (.cells #[.int .i64 0, .int .u64 0, .slice none 0 0, .slice none 0 0] 74 (0, 0)) := by
      rw [hb1.block _ (by simp)]; exact heap_alloc_new w _
    have hFt := (Fr.refl (· = w.heap.size) w1).set1 0 (.int .i64 (t.toNat : Int))
    have hxt := heap_store hx1 0 (.int .i64 (t.toNat : Int))
    generalize w1.setCell ⟨w.heap.size, 0, none⟩ (.int .i64 (t.toNat : Int)) = wt at *
    have hBt : Below w.heap.size w wt := Below.fr hB hFt (fun i hi e => by omega)
    have z0 : wt.frozen? ⟨w.heap.size, 0, none⟩ = false := frozen_of_row wt _ 0 _ _ hxt
    have z1 : wt.frozen? ⟨w.heap.size, 1, none⟩ = false := frozen_of_row wt _ 1 _ _ hxt
    have z2 : wt.frozen? ⟨w.heap.size, 2, none⟩ = false := frozen_of_row wt _ 2 _ _ hxt
    have z3 : wt.frozen? ⟨w.heap.size, 3, none⟩ = false := frozen_of_row wt _ 3 _ _ hxt
    have b0 := cell_of_heap hxt 0
    have b1 := cell_of_heap hxt 1
    have b2 := cell_of_heap hxt 2
    have b3 := cell_of_heap hxt 3
    simp at b0 b1 b2 b3
    have HXT := hid hxt
    have HBT := hid hBt
    clear hxt hBt hFt hx1 hB hc1 hf1 hb1 hbi hbr
    go_wp2
    have hx3 := heap_store (heap_store (heap_store (heap_store HXT.out 0 (.int .i64 0)) 1 (.int .u64 0)) 2 (.slice none 0 0)) 3 (.slice none 0 0)
    have hF2 := ((((Fr.refl (· = w.heap.size) wt).set1 0 (.int .i64 0)).set1 1 (.int .u64 0)).set1 2 (.slice none 0 0)).set1 3 (.slice none 0 0)
    refine bodyPost_ret (results_ctt rfl _ _ w.heap.size _ _ _ _ rfl hx3 Try.underlying74 rfl (by kernel_rfl)) rfl ?_
    exact RetR.no (Below.fr HBT.out hF2 (fun i hi e => by omega))
  · skip
    go_enter Try.func52, Try.ntmps52
    go_upto_block 0 with (go_at_call 60; refine (HS.out _ (HB.out.new ((Fr.refl (fun _ => False) w).alloc _) (fun _ _ h => h.elim))).mono ?_; rintro e w1 ⟨hb1, ai, ci, ar, cr, rfl, hbi, hbr⟩; obtain ⟨hc1, hf1⟩ := wold hb1; have hsz1 : w.heap.size < w1.heap.size := (by have := hb1.size; simp at this; omega))
    have hB : Below w.heap.size w w1 := ((Below.refl _ _).alloc (Nat.le_refl _) _).trans (hb1.mono (by simp))
    have hx1 : w1.heap[w.heap.size]? = some (.cells #[.int .i64 0, .int .u64 0, .slice none 0 0, .slice none 0 0] 74 (0, 0)) := by
      rw [hb1.block _ (by simp)]; exact heap_alloc_new w _
    have hFt := (Fr.refl (· = w.heap.size) w1).set1 0 (.int .i64 (t.toNat : Int))
    have hxt := heap_store hx1 0 (.int .i64 (t.toNat : Int))
    generalize w1.setCell ⟨w.heap.size, 0, none⟩ (.int .i64 (t.toNat : Int)) = wt at *
    have hBt : Below w.heap.size w wt := Below.fr hB hFt (fun i hi e => by omega)
    have z0 : wt.frozen? ⟨w.heap.size, 0, none⟩ = false := frozen_of_row wt _ 0 _ _ hxt
    have z1 : wt.frozen? ⟨w.heap.size, 1, none⟩ = false := frozen_of_row wt _ 1 _ _ hxt
    have z2 : wt.frozen? ⟨w.heap.size, 2, none⟩ = false := frozen_of_row wt _ 2 _ _ hxt
    have z3 : wt.frozen? ⟨w.heap.size, 3, none⟩ = false := frozen_of_row wt _ 3 _ _ hxt
    have b0 := cell_of_heap hxt 0
    have b1 := cell_of_heap hxt 1
    have b2 := cell_of_heap hxt 2
    have b3 := cell_of_heap hxt 3
    simp at b0 b1 b2 b3
    have HXT := hid hxt
    have HBT := hid hBt
    clear hxt hBt hFt hx1 hB hc1 hf1 hb1 hbi hbr
    go_wp2
    have hx3 := heap_store (heap_store (heap_store (heap_store HXT.out 0 (.int .i64 0)) 1 (.int .u64 0)) 2 (.slice none 0 0)) 3 (.slice none 0 0)
    have hF2 := ((((Fr.refl (· = w.heap.size) wt).set1 0 (.int .i64 0)).set1 1 (.int .u64 0)).set1 2 (.slice none 0 0)).set1 3 (.slice none 0 0)
    refine bodyPost_ret (results_ctt rfl _ _ w.heap.size _ _ _ _ rfl hx3 Try.underlying74 rfl (by kernel_rfl)) rfl ?_
    exact RetR.no (Below.fr HBT.out hF2 (fun i hi e => by omega))
  · skip
    go_enter Try.func52, Try.ntmps52
    go_upto_block 0 with (go_at_call 60; refine (HS.out _ (HB.out.new ((Fr.refl (fun _ => False) w).alloc _) (fun _ _ h => h.elim))).mono ?_; rintro e w1 ⟨hb1, ai, ci, ar, cr, rfl, hbi, hbr⟩; obtain ⟨hc1, hf1⟩ := wold hb1; have hsz1 : w.heap.size < w1.heap.size := (by have := hb1.size; simp at this; omega))
    have hB : Below w.heap.size w w1 := ((Below.refl _ _).alloc (Nat.le_refl _) _).trans (hb1.mono (by simp))
    have hx1 : w1.heap[w.heap.size]? = some (.cells #[.int .i64 0, .int .u64 0, .slice none 0 0, .slice none 0 0] 74 (0, 0)) := by
      rw [hb1.block _ (by simp)]; exact heap_alloc_new w _
    have hFt := (Fr.refl (· = w.heap.size) w1).set1 0 (.int .i64 (t.toNat : Int))
    have hxt := heap_store hx1 0 (.int .i64 (t.toNat : Int))
    have hbi2 := hbi.fr hFt (fun k hk h => .inr (by omega))
    generalize hwt : w1.setCell ⟨w.heap.size, 0, none⟩ (.int .i64 (t.toNat : Int)) = wt at *
    obtain ⟨_, _, hsl, ⟨hf1a, hf2a, hf3a⟩, _, h4⟩ := hbi2
    injection hsl with e1 _ e3
    subst e1 e3
    unfold maxLen at hf3a
    rcases h4 with h | ⟨blk, off, ha, _, _, hc⟩
    · rw [h] at hi0; cases hi0
    subst ha
    have hcell : wt.cell? ⟨blk, off, none⟩ = some (.int .u8 0) := by have := hc 0 0 hi0; rwa [Nat.add_zero] at this
    have hpos : (0 : Int) < (i.length : Int) := by
      have := (List.getElem?_eq_some_iff.1 hi0).1
      omega
    have hlen2 : ((i.length : Int) == 0) = false := by simp only [beq_eq_false_iff_ne, ne_eq]; omega
    clear hc hwt
    have hBt : Below w.heap.size w wt := Below.fr hB hFt (fun i hi e => by omega)
    have z0 : wt.frozen? ⟨w.heap.size, 0, none⟩ = false := frozen_of_row wt _ 0 _ _ hxt
    have z1 : wt.frozen? ⟨w.heap.size, 1, none⟩ = false := frozen_of_row wt _ 1 _ _ hxt
    have z2 : wt.frozen? ⟨w.heap.size, 2, none⟩ = false := frozen_of_row wt _ 2 _ _ hxt
    have z3 : wt.frozen? ⟨w.heap.size, 3, none⟩ = false := frozen_of_row wt _ 3 _ _ hxt
    have b0 := cell_of_heap hxt 0
    have b1 := cell_of_heap hxt 1
    have b2 := cell_of_heap hxt 2
    have b3 := cell_of_heap hxt 3
    simp at b0 b1 b2 b3
    have HXT := hid hxt
    have HBT := hid hBt
    clear hxt hBt hFt hx1 hB hc1 hf1 hb1 hbi hbr
    go_wp2
    have hx3 := heap_store (heap_store (heap_store (heap_store HXT.out 0 (.int .i64 0)) 1 (.int .u64 0)) 2 (.slice none 0 0)) 3 (.slice none 0 0)
    have hF2 := ((((Fr.refl (· = w.heap.size) wt).set1 0 (.int .i64 0)).set1 1 (.int .u64 0)).set1 2 (.slice none 0 0)).set1 3 (.slice none 0 0)
    refine bodyPost_ret (results_ctt rfl _ _ w.heap.size _ _ _ _ rfl hx3 Try.underlying74 rfl (by kernel_rfl)) rfl ?_
    exact RetR.no (Below.fr HBT.out hF2 (fun i hi e => by omega))
  · show Calls Try.prog 52 #[b, .int .i64 0] w (RetR S w none)
    go_enter Try.func52, Try.ntmps52
    go_upto_block 0 with (go_at_call 60; refine (HS.out _ (HB.out.new ((Fr.refl (fun _ => False) w).alloc _) (fun _ _ h => h.elim))).mono ?_; rintro e w1 ⟨hb1, ai, ci, ar, cr, rfl, hbi, hbr⟩; obtain ⟨hc1, hf1⟩ := wold hb1; have hsz1 : w.heap.size < w1.heap.size := (by have := hb1.size; simp at this; omega))
    have hB : Below w.heap.size w w1 := ((Below.refl _ _).alloc (Nat.le_refl _) _).trans (hb1.mono (by simp))
    have hx1 : w1.heap[w.heap.size]? = some (.cells #[.int .i64 0, .int .u64 0, .slice none 0 0, .slice none 0 0] 74 (0, 0)) := by
      rw [hb1.block _ (by simp)]; exact heap_alloc_new w _
    have hFt := (Fr.refl (· = w.heap.size) w1).set1 0 (.int .i64 (t.toNat : Int))
    have hxt := heap_store hx1 0 (.int .i64 (t.toNat : Int))
    generalize w1.setCell ⟨w.heap.size, 0, none⟩ (.int .i64 (t.toNat : Int)) = wt at *
    have hBt : Below w.heap.size w wt := Below.fr hB hFt (fun i hi e => by omega)
    have z0 : wt.frozen? ⟨w.heap.size, 0, none⟩ = false := frozen_of_row wt _ 0 _ _ hxt
    have z1 : wt.frozen? ⟨w.heap.size, 1, none⟩ = false := frozen_of_row wt _ 1 _ _ hxt
    have z2 : wt.frozen? ⟨w.heap.size, 2, none⟩ = false := frozen_of_row wt _ 2 _ _ hxt
    have z3 : wt.frozen? ⟨w.heap.size, 3, none⟩ = false := frozen_of_row wt _ 3 _ _ hxt
    have b0 := cell_of_heap hxt 0
    have b1 := cell_of_heap hxt 1
    have b2 := cell_of_heap hxt 2
    have b3 := cell_of_heap hxt 3
    simp at b0 b1 b2 b3
    have HXT := hid hxt
    have HBT := hid hBt
    clear hxt hBt hFt hx1 hB hc1 hf1 hb1 hbi hbr
    go_wp2
    have hx3 := heap_store (heap_store (heap_store (heap_store HXT.out 0 (.int .i64 0)) 1 (.int .u64 0)) 2 (.slice none 0 0)) 3 (.slice none 0 0)
    have hF2 := ((((Fr.refl (· = w.heap.size) wt).set1 0 (.int .i64 0)).set1 1 (.int .u64 0)).set1 2 (.slice none 0 0)).set1 3 (.slice none 0 0)
    refine bodyPost_ret (results_ctt rfl _ _ w.heap.size _ _ _ _ rfl hx3 Try.underlying74 rfl (by kernel_rfl)) rfl ?_
    exact RetR.no (Below.fr HBT.out hF2 (fun i hi e => by omega))
  · show Calls Try.prog 52 #[b, .int .i64 0] w (RetR S w none)
    go_enter Try.func52, Try.ntmps52
    go_upto_block 0 with (go_at_call 60; refine (HS.out _ (HB.out.new ((Fr.refl (fun _ => False) w).alloc _) (fun _ _ h => h.elim))).mono ?_; rintro e w1 ⟨hb1, ai, ci, ar, cr, rfl, hbi, hbr⟩; obtain ⟨hc1, hf1⟩ := wold hb1; have hsz1 : w.heap.size < w1.heap.size := (by have := hb1.size; simp at this; omega))
    have hB : Below w.heap.size w w1 := ((Below.refl _ _).alloc (Nat.le_refl _) _).trans (hb1.mono (by simp))
    have hx1 : w1.heap[w.heap.size]? = some (.cells #[.int .i64 0, .int .u64 0, .slice none 0 0, .slice none 0 0] 74 (0, 0)) := by
      rw [hb1.block _ (by simp)]; exact heap_alloc_new w _
    have hFt := (Fr.refl (· = w.heap.size) w1).set1 0 (.int .i64 (t.toNat : Int))
    have hxt := heap_store hx1 0 (.int .i64 (t.toNat : Int))
    generalize w1.setCell ⟨w.heap.size, 0, none⟩ (.int .i64 (t.toNat : Int)) = wt at *
    have hBt : Below w.heap.size w wt := Below.fr hB hFt (fun i hi e => by omega)
    have z0 : wt.frozen? ⟨w.heap.size, 0, none⟩ = false := frozen_of_row wt _ 0 _ _ hxt
    have z1 : wt.frozen? ⟨w.heap.size, 1, none⟩ = false := frozen_of_row wt _ 1 _ _ hxt
    have z2 : wt.frozen? ⟨w.heap.size, 2, none⟩ = false := frozen_of_row wt _ 2 _ _ hxt
    have z3 : wt.frozen? ⟨w.heap.size, 3, none⟩ = false := frozen_of_row wt _ 3 _ _ hxt
    have b0 := cell_of_heap hxt 0
    have b1 := cell_of_heap hxt 1
    have b2 := cell_of_heap hxt 2
    have b3 := cell_of_heap hxt 3
    simp at b0 b1 b2 b3
    have HXT := hid hxt
    have HBT := hid hBt
    clear hxt hBt hFt hx1 hB hc1 hf1 hb1 hbi hbr
    go_wp2
    have hx3 := heap_store (heap_store (heap_store (heap_store HXT.out 0 (.int .i64 0)) 1 (.int .u64 0)) 2 (.slice none 0 0)) 3 (.slice none 0 0)
    have hF2 := ((((Fr.refl (· = w.heap.size) wt).set1 0 (.int .i64 0)).set1 1 (.int .u64 0)).set1 2 (.slice none 0 0)).set1 3 (.slice none 0 0)
    refine bodyPost_ret (results_ctt rfl _ _ w.heap.size _ _ _ _ rfl hx3 Try.underlying74 rfl (by kernel_rfl)) rfl ?_
    exact RetR.no (Below.fr HBT.out hF2 (fun i hi e => by omega))
  · show Calls Try.prog 52 #[b, .int .i64 0] w (RetR S w none)
    go_enter Try.func52, Try.ntmps52
    go_upto_block 0 with (go_at_call 60; refine (HS.out _ (HB.out.new ((Fr.refl (fun _ => False) w).alloc _) (fun _ _ h => h.elim))).mono ?_; rintro e w1 ⟨hb1, ai, ci, ar, cr, rfl, hbi, hbr⟩; obtain ⟨hc1, hf1⟩ := wold hb1; have hsz1 : w.heap.size < w1.heap.size := (by have := hb1.size; simp at this; omega))
    have hB : Below w.heap.size w w1 := ((Below.refl _ _).alloc (Nat.le_refl _) _).trans (hb1.mono (by simp))
    have hx1 : w1.heap[w.heap.size]? = some (.cells #[.int .i64 0, .int .u64 0, .slice none 0 0, .slice none 0 0] 74 (0, 0)) := by
      rw [hb1.block _ (by simp)]; exact heap_alloc_new w _
    have hFt := (Fr.refl (· = w.heap.size) w1).set1 0 (.int .i64 (t.toNat : Int))
    have hxt := heap_store hx1 0 (.int .i64 (t.toNat : Int))
    have hbi2 := hbi.fr hFt (fun k hk h => .inr (by omega))
    generalize hwt : w1.setCell ⟨w.heap.size, 0, none⟩ (.int .i64 (t.toNat : Int)) = wt at *
    obtain ⟨_, _, hsl, ⟨hf1a, hf2a, hf3a⟩, _, h4⟩ := hbi2
    injection hsl with e1 _ e3
    subst e1 e3
    unfold maxLen at hf3a
    rcases h4 with h | ⟨blk, off, ha, _, _, hc⟩
    · rw [h] at hi0; cases hi0
    subst ha
    have hcell : wt.cell? ⟨blk, off, none⟩ = some (.int .u8 0) := by have := hc 0 0 hi0; rwa [Nat.add_zero] at this
    have hpos : (0 : Int) < (i.length : Int) := by
      have := (List.getElem?_eq_some_iff.1 hi0).1
      omega
    have hlen2 : ((i.length : Int) == 0) = false := by simp only [beq_eq_false_iff_ne, ne_eq]; omega
    clear hc hwt
    have hBt : Below w.heap.size w wt := Below.fr hB hFt (fun i hi e => by omega)
    have z0 : wt.frozen? ⟨w.heap.size, 0, none⟩ = false := frozen_of_row wt _ 0 _ _ hxt
    have z1 : wt.frozen? ⟨w.heap.size, 1, none⟩ = false := frozen_of_row wt _ 1 _ _ hxt
    have z2 : wt.frozen? ⟨w.heap.size, 2, none⟩ = false := frozen_of_row wt _ 2 _ _ hxt
    have z3 : wt.frozen? ⟨w.heap.size, 3, none⟩ = false := frozen_of_row wt _ 3 _ _ hxt
    have b0 := cell_of_heap hxt 0
    have b1 := cell_of_heap hxt 1
    have b2 := cell_of_heap hxt 2
    have b3 := cell_of_heap hxt 3
    simp at b0 b1 b2 b3
    have HXT := hid hxt
    have HBT := hid hBt
    clear hxt hBt hFt hx1 hB hc1 hf1 hb1 hbi hbr
    go_wp2
    have hx3 := heap_store (heap_store (heap_store (heap_store HXT.out 0 (.int .i64 0)) 1 (.int .u64 0)) 2 (.slice none 0 0)) 3 (.slice none 0 0)
    have hF2 := ((((Fr.refl (· = w.heap.size) wt).set1 0 (.int .i64 0)).set1 1 (.int .u64 0)).set1 2 (.slice none 0 0)).set1 3 (.slice none 0 0)
    refine bodyPost_ret (results_ctt rfl _ _ w.heap.size _ _ _ _ rfl hx3 Try.underlying74 rfl (by kernel_rfl)) rfl ?_
    exact RetR.no (Below.fr HBT.out hF2 (fun i hi e => by omega))
end Go.Proofs.Ytpomfegcifpfkaa
/- tlv's read of a list: the plain part, and its loop's state. -/
namespace Go.Proofs.Ytpomfegcifpfkaa
open Go Go.RowKit
theorem splitF_in {b : List UInt8} {t : UInt8} {i r : List UInt8} (h : splitF b = some (t, i, r)) : i.length ≤ 65535 := by
  unfold splitF at h
  split at h
  · rename_i t h1 l r'
    split at h
    · simp only [Option.some.injEq, Prod.mk.injEq] at h
      obtain ⟨_, rfl, rfl⟩ := h
      have := h1.toNat_lt
      have := l.toNat_lt
      simp; omega
    · cases h
  · cases h
theorem readWith_lt {sub : List UInt8 → Option (List TV)} {b : List UInt8} {v : TV} {r : List UInt8} (h : readWith sub b = some (v, r)) : r.length + 3 ≤ b.length := by
  unfold readWith at h
  cases hs : splitF b with
  | none => rw [hs] at h; cases h
  | some x =>
    obtain ⟨t, i, r'⟩ := x
    have hl := (splitF_lt hs).2
    rw [hs] at h
    simp only [Option.bind_some] at h
    split at h
    · split at h
      · simp only [Option.some.injEq, Prod.mk.injEq] at h; rw [← h.2]; exact hl
      · cases h
    · split at h
      · simp only [Option.some.injEq, Prod.mk.injEq] at h; rw [← h.2]; exact hl
      · split at h
        · cases hsub : sub i with
          | none => rw [hsub] at h; cases h
          | some l =>
            rw [hsub] at h
            simp only [Option.map_some, Option.some.injEq, Prod.mk.injEq] at h
            rw [← h.2]; exact hl
        · cases h
theorem readF_lt {d : Nat} {b : List UInt8} {v : TV} {r : List UInt8} (h : readF d b = some (v, r)) : r.length + 3 ≤ b.length := by
  cases d with
  | zero => rw [readF] at h; exact readWith_lt h
  | succ d => rw [readF] at h; exact readWith_lt h
theorem readsW_fuel {rd : List UInt8 → Option (TV × List UInt8)} (hrd : ∀ b v r, rd b = some (v, r) → r.length < b.length) : ∀ (f g : Nat) (b : List UInt8), b.length ≤ f → b.length ≤ g → readsW rd f b = readsW rd g b
  | f, g, [], _, _ => by
    cases f <;> cases g <;> simp [readsW]
  | 0, _, _ :: _, h, _ => by simp at h
  | _ + 1, 0, _ :: _, _, h => by simp at h
  | f + 1, g + 1, c :: b, hf, hg => by
    rw [readsW, readsW]
    cases h : rd (c :: b) with
    | none => rfl
    | some x =>
      obtain ⟨v, r⟩ := x
      have := hrd _ _ _ h
      simp only [List.length_cons] at this hf hg
      simp only [Option.bind_some]
      rw [readsW_fuel hrd f g r (by omega) (by omega)]
/-- All values that bytes are. -/
def readsF (d : Nat) (b : List UInt8) : Option (List TV) := readsW (readF d) b.length b
theorem readsF_nil (d : Nat) : readsF d [] = some [] := rfl
theorem readsF_step (d : Nat) (b : List UInt8) (h : b ≠ []) : readsF d b = (readF d b).bind fun x => (readsF d x.2).map fun l => x.1 :: l := by
  cases b with
  | nil => exact absurd rfl h
  | cons c b =>
    rw [readsF, List.length_cons, readsW]
    cases hh : readF d (c :: b) with
    | none => rfl
    | some x =>
      obtain ⟨v, r⟩ := x
      have := readF_lt hh
      simp only [List.length_cons] at this
      simp only [Option.bind_some, readsF]
      rw [readsW_fuel (fun b v r h => by have := readF_lt h; omega) b.length r.length r (by omega) (Nat.le_refl _)]
theorem TVch.shift {S S0 S' : Nat → Prop} {w w' : World} {l : List TV} {cs : List Value} (h : TVch S w l cs) (hf : Fr S0 w w') (h0 : ∀ k, k < w.heap.size → S0 k → S k) (h1 : ∀ k, k < w.heap.size → S' k → S k) : TVch S' w' l cs := by
  have t1 : TVch (fun k => S k ∨ w.heap.size ≤ k) w l cs := TVch.mono (fun k hk hs => hs.elim id (fun hl => absurd hk (by omega))) l cs h
  have t2 := TVch.fr hf (fun k hk hs => .inl (h0 k hk hs)) l cs t1
  exact TVch.mono (fun k _ hs => by
    by_cases hk : k < w.heap.size
    · exact .inl (h1 k hk hs)
    · exact .inr (by omega)) l cs t2
/-- A row at a fresh block. -/
theorem row_atk {w : World} {g n size : Nat} {cs : Array Value} {e : TypeId} {fz : Nat × Nat} (hg : w.heap[g]? = some (.cells cs e fz)) (hn : cs.size = n * size) (hl : n ≤ 140737488355328) : Row (fun _ => False) w (.slice (some ⟨g, 0, none⟩) n n) n size cs.toList := by
  refine ⟨by simp [hn], _, n, rfl, ⟨Nat.le_refl _, hl, by unfold maxLen; omega⟩, (fun h => nomatch h), .inr ⟨g, 0, rfl, lt_of_heap hg, id, fun j x hx => ?_⟩⟩
  rw [cell_of_heap hg, Nat.zero_add, ← Array.getElem?_toList]
  exact hx
/-- The state of the list's loop. -/
structure LS (S : Nat → Prop) (w wr : World) (l : List TV) (al : Option Addr) (cl : Nat) (ks : List Value) : Prop where
  box : wr.heap[w.heap.size]? = some (.cells #[.int .i64 3, .int .u64 0, .slice none 0 0, .slice al l.length cl] 74 (0, 0))
  own : Own wr (w.heap.size + 1) 74 4 (.slice al l.length cl) l.length ks
  ch : TVch (fun k => S k ∨ k = w.heap.size ∨ mine (.slice al l.length cl) k) wr l ks
  below : Below w.heap.size w wr
theorem LS.step {S SV : Nat → Prop} {w wr w4 w5 : World} {l : List TV} {v : TV} {al a' : Option Addr} {cl c' n' : Nat} {ks c : List Value} (h : LS S w wr l al cl ks) (hf : Fr (fun _ => False) wr w4) (hv : TVr SV w4 v c)
    (hSV : ∀ k, k < w4.heap.size → (S k ∨ k = w.heap.size ∨ mine (.slice al l.length cl) k) → SV k)
    (ho : Own w5 (w.heap.size + 1) 74 4 (.slice a' n' c') n' (ks ++ c)) (hn' : n' = (l ++ [v]).length) (hf5 : Fr (mine (.slice al l.length cl)) w4 w5)
    (hm : ∀ k, mine (.slice a' n' c') k → mine (.slice al l.length cl) k ∨ w4.heap.size ≤ k) :
    LS S w (w5.setCell ⟨w.heap.size, 3, none⟩ (.slice a' n' c')) (l ++ [v]) a' c' (ks ++ c) ∧ Fr (fun k => w.heap.size ≤ k) wr (w5.setCell ⟨w.heap.size, 3, none⟩ (.slice a' n' c')) := by
  subst hn'
  have hB : ¬ mine (.slice al l.length cl) w.heap.size := fun hk => by have := (Own.mine_ge h.own hk).1; omega
  have hB' : ¬ mine (.slice a' (l ++ [v]).length c') w.heap.size := fun hk => by have := (Own.mine_ge ho hk).1; omega
  have hF6 : Fr (fun k => k = w.heap.size ∨ mine (.slice al l.length cl) k) w4 (w5.setCell ⟨w.heap.size, 3, none⟩ (.slice a' (l ++ [v]).length c')) :=
    (hf5.mono (fun _ _ h => .inr h)).setCell (p := ⟨w.heap.size, 3, none⟩) (fun _ => .inl rfl) _
  have hnew : ∀ k, k < w4.heap.size → (S k ∨ k = w.heap.size ∨ mine (.slice a' (l ++ [v]).length c') k) → (S k ∨ k = w.heap.size ∨ mine (.slice al l.length cl) k) :=
    fun k hk hs => hs.imp id (fun hs => hs.imp id (fun hs => (hm k hs).resolve_right (by omega)))
  refine ⟨⟨?_, ?_, ?_, ?_⟩, (hf.mono (fun _ _ h => h.elim)).trans (hF6.mono (fun k _ hs => ?_))⟩
  · have := heap_store (hf5.heap (hf.heap h.box id) hB) 3 (.slice a' (l ++ [v]).length c')
    exact this
  · exact Own.fr ho ((Fr.refl (· = w.heap.size) w5).setCell (p := ⟨w.heap.size, 3, none⟩) (fun _ => rfl) _) (fun k hk e => hB' (e ▸ hk))
  · refine TVch.snoc (TVr.shift hv hF6 (fun k hk hs => hSV k hk (.inr hs)) (fun k hk hs => hSV k hk (hnew k hk hs))) ?_
    have hc4 : TVch (fun k => S k ∨ k = w.heap.size ∨ mine (.slice al l.length cl) k) w4 l ks := TVch.fr hf (fun _ _ h => h.elim) l ks h.ch
    exact TVch.shift hc4 hF6 (fun k hk hs => .inr hs) hnew
  · refine Below.fr h.below ((hf.mono (S' := fun k => k = w.heap.size ∨ mine (.slice al l.length cl) k) (fun _ _ h => h.elim)).trans hF6) (fun k hk hs => ?_)
    rcases hs with rfl | hs
    · omega
    · have := (Own.mine_ge h.own hs).1; omega
  · rcases hs with rfl | hs
    · exact Nat.le_refl _
    · have := (Own.mine_ge h.own hs).1; omega
end Go.Proofs.Ytpomfegcifpfkaa
/- tlv's read of a list. -/
namespace Go.Proofs.Ytpomfegcifpfkaa
open Go Go.RowKit
/-- How long a slice is. -/
def slen (v : Value) : Nat := match v with | .slice _ n _ => n | _ => 0
set_option maxRecDepth 100000 in
set_option maxHeartbeats 4000000 in
theorem read_list {S : Nat → Prop} {w0 : World} (hSB : SB S w0) (d : Nat) (hd : d < 100) (b : Value) (xs : List UInt8) (w : World) (hw0 : w0 = w) (hb : Bs S w b xs) (t : UInt8) (i r : List UInt8) (hsp : splitF xs = some (t, i, r)) (ht : t.toNat = 3)
    (ih : ∀ (S : Nat → Prop) (b : Value) (xs : List UInt8) (w : World), SB S w → Bs S w b xs → Calls Try.prog 52 #[b, .int .i64 (d : Int)] w (RetR S w (readF d xs))) :
    Calls Try.prog 52 #[b, .int .i64 ((d : Int) + 1)] w (RetR S w ((readsF d i).map fun l => (.mk 3 0 [] l, r))) := by
  subst hw0
  have HSB := hid hSB
  have HS := hid (show ∀ w', Bs (SN S w0) w' b xs → Calls Try.prog 60 #[b] w' (RetS (SN S w0) w' (some (t, i, r))) from fun w' h => hsp ▸ split_ok b xs w' h)
  have HB := hid hb
  have HIN := hid (splitF_in hsp)
  have IH := hid ih
  have ht' : (t.toNat : Int) = 3 := by omega
  clear hb hsp ht hSB ih
  have hd0 : decide ((0 : Int) < (d : Int) + 1) = true := by simp
  have hwd : IntKind.i64.wrap ((d : Int) + 1 - 1) = (d : Int) := by rw [show (d : Int) + 1 - 1 = (d : Int) from by omega]; exact IntWalk.i64_in _ (by omega)
  go_enter Try.func52, Try.ntmps52
  go_upto_block 0 with (go_at_call 60; refine (HS.out _ (HB.out.new ((Fr.refl (fun _ => False) w0).alloc _) (fun _ _ h => h.elim))).mono ?_; rintro e w1 ⟨hb1, ai, ci, ar, cr, rfl, hbi, hbr⟩; obtain ⟨hc1, hf1⟩ := wold hb1; have hsz1 : w0.heap.size < w1.heap.size := (by have := hb1.size; simp at this; omega))
  have hB : Below w0.heap.size w0 w1 := ((Below.refl _ _).alloc (Nat.le_refl _) _).trans (hb1.mono (by simp))
  have hx1 : w1.heap[w0.heap.size]? = some (.cells #[.int .i64 0, .int .u64 0, .slice none 0 0, .slice none 0 0] 74 (0, 0)) := by
    rw [hb1.block _ (by simp)]; exact heap_alloc_new w0 _
  have hxt := heap_store hx1 0 (.int .i64 3)
  have hFt := (Fr.refl (· = w0.heap.size) w1).set1 0 (.int .i64 3)
  generalize w1.setCell ⟨w0.heap.size, 0, none⟩ (.int .i64 3) = wt at *
  have hbt := hbi.fr hFt (fun k hk h => .inr (by omega))
  have hrt := hbr.fr hFt (fun k hk h => .inr (by omega))
  have hBt : Below w0.heap.size w0 wt := Below.fr hB hFt (fun i hi e => by omega)
  have HBT := hid hbt
  have HRT := hid hrt
  have HL0 := hid (show LS S w0 wt [] none 0 [] from ⟨hxt, Own.nil _ _ _ _, by rw [TVch], hBt⟩)
  have hszt : w0.heap.size < wt.heap.size := lt_of_heap hxt
  clear hrt hBt hxt hFt hx1 hB hc1 hf1 hb1 hbi hbr hbt
  go_wp2
  go_loopw [5, 8] (fun s5 s wr => ∃ (l : List TV) (ins : List UInt8) (ai' : Option Addr) (ci' : Nat) (al : Option Addr) (cl : Nat) (ks : List Value), s5 = .slice ar r.length cr ∧ s = .slice ai' ins.length ci' ∧ Bs (SN S w0) wr (.slice ai' ins.length ci') ins ∧ LS S w0 wr l al cl ks ∧
    readsF d i = (readsF d ins).map (l ++ ·) ∧ 3 * l.length + ins.length ≤ i.length ∧ Bs (SN S w0) wr (.slice ar r.length cr) r) (fun _ s _ => slen s)
  case atStart => exact ⟨[], i, ai, ci, none, 0, [], rfl, rfl, HBT.out, HL0.out, by simp, by simp, HRT.out⟩
  case round =>
    obtain ⟨l, ins, ai', ci', al, cl, ks, rfl, rfl, hbi, hL, hR, h3, hrr⟩ := hrel
    have hbxl := lt_of_heap hL.box
    have b0 : wr.cell? ⟨w0.heap.size, 0, none⟩ = some (.int .i64 3) := cell_of_heap hL.box 0
    have b1 : wr.cell? ⟨w0.heap.size, 1, none⟩ = some (.int .u64 0) := cell_of_heap hL.box 1
    have b2 : wr.cell? ⟨w0.heap.size, 2, none⟩ = some (.slice none 0 0) := cell_of_heap hL.box 2
    have b3 : wr.cell? ⟨w0.heap.size, 3, none⟩ = some (.slice al l.length cl) := cell_of_heap hL.box 3
    have z0 : wr.frozen? ⟨w0.heap.size, 0, none⟩ = false := frozen_of_row wr _ 0 _ _ hL.box
    have z1 : wr.frozen? ⟨w0.heap.size, 1, none⟩ = false := frozen_of_row wr _ 1 _ _ hL.box
    have z2 : wr.frozen? ⟨w0.heap.size, 2, none⟩ = false := frozen_of_row wr _ 2 _ _ hL.box
    have z3 : wr.frozen? ⟨w0.heap.size, 3, none⟩ = false := frozen_of_row wr _ 3 _ _ hL.box
    have HBI := hid hbi
    have HL := hid hL
    have HR := hid hR
    have HRR := hid hrr
    clear hbi hL hR hrr
    by_cases hn : ins = []
    · subst hn
      have hR2 : readsF d i = some l := by rw [HR.out, readsF_nil]; simp
      simp only [List.length_nil]
      go_wp2
      have hx3 := heap_store (heap_store (heap_store (heap_store HL.out.box 0 (.int .i64 3)) 1 (.int .u64 0)) 2 (.slice none 0 0)) 3 (.slice al l.length cl)
      have hF2 := ((((Fr.refl (· = w0.heap.size) wr).set1 0 (.int .i64 3)).set1 1 (.int .u64 0)).set1 2 (.slice none 0 0)).set1 3 (.slice al l.length cl)
      have hB2 := Below.fr HL.out.below hF2 (fun i hi e => by omega)
      rw [hR2, Option.map_some]
      refine bodyPost_ret (results_ctt rfl _ _ w0.heap.size _ _ _ _ rfl hx3 Try.underlying74 rfl (by kernel_rfl)) rfl (RetR.yes hB2 ⟨_, _, _, _, rfl, ?_⟩ (HRR.out.fr hF2 (fun k hk h => .inr (by omega))))
      rw [TVr]
      refine ⟨by omega, _, _, ks, rfl, Bs.nil _ _, ((Own.fr HL.out.own hF2 (fun k hk e => by have := (Own.mine_ge HL.out.own hk).1; omega)).row (fun k hk _ hs => by have := HSB.out k hs; omega)), ?_⟩
      exact TVch.mono (fun k _ hs => .inl hs) _ _ (TVch.fr hF2 (fun k _ e => .inr (.inl e)) _ _ HL.out.ch)
    · have hpos : (0 : Int) < (ins.length : Int) := by
        have := List.length_pos_iff.2 hn
        omega
      have hstep := readsF_step d ins hn
      have HSB2 := hid (show SB (fun k => SN S w0 k ∧ k < wr.heap.size + 1) (wr.alloc (.cells #[.int .i64 0, .int .u64 0, .slice none 0 0, .slice none 0 0] 74 (0, 0))) from fun k hk => by simpa using hk.2)
      have hIH := IH.out (fun k => SN S w0 k ∧ k < wr.heap.size + 1) _ ins _ HSB2.out ((HBI.out.fr ((Fr.refl (fun _ => False) wr).alloc _) (fun _ _ h => h.elim)).mono (fun k _ h => h.1))
      cases hrd : readF d ins with
      | none =>
        rw [hrd] at hIH hstep
        have hR2 : readsF d i = none := by rw [HR.out, hstep]; rfl
        have HC := hid hIH
        clear hIH hstep
        go_wp2_with (go_at_call 52; refine HC.out.mono ?_; rintro e w2 ⟨hb2, rfl⟩; obtain ⟨hc2, hf2⟩ := wold hb2; have hsz2 : wr.heap.size < w2.heap.size := (by have := hb2.size; simp at this; omega))
        rw [hR2, Option.map_none]
        have hbx : w2.heap[w0.heap.size]? = some (.cells #[.int .i64 3, .int .u64 0, .slice none 0 0, .slice al l.length cl] 74 (0, 0)) := by
          rw [hb2.block _ (by simp; omega), heap_alloc_old _ _ (by omega)]; exact HL.out.box
        have hFx := ((((Fr.refl (· = wr.heap.size) w2).set1 0 (.int .i64 0)).set1 1 (.int .u64 0)).set1 2 (.slice none 0 0)).set1 3 (.slice none 0 0)
        have hbx2 := hFx.heap hbx (by omega)
        have hBx : Below w0.heap.size w0 w2 := (HL.out.below.alloc (by omega) _).trans (hb2.mono (by simp; omega))
        have hBx2 := Below.fr hBx hFx (fun i hi e => by omega)
        generalize (((w2.setCell ⟨wr.heap.size, 0, none⟩ (.int .i64 0)).setCell ⟨wr.heap.size, 1, none⟩ (.int .u64 0)).setCell ⟨wr.heap.size, 2, none⟩ (.slice none 0 0)).setCell ⟨wr.heap.size, 3, none⟩ (.slice none 0 0) = w3 at *
        have hx3 := heap_store (heap_store (heap_store (heap_store hbx2 0 (.int .i64 0)) 1 (.int .u64 0)) 2 (.slice none 0 0)) 3 (.slice none 0 0)
        have hF2 := ((((Fr.refl (· = w0.heap.size) w3).set1 0 (.int .i64 0)).set1 1 (.int .u64 0)).set1 2 (.slice none 0 0)).set1 3 (.slice none 0 0)
        refine bodyPost_ret (results_ctt rfl _ _ w0.heap.size _ _ _ _ rfl hx3 Try.underlying74 rfl (by kernel_rfl)) rfl (RetR.no (Below.fr hBx2 hF2 (fun i hi e => by omega)))
      | some p =>
        obtain ⟨v, r'⟩ := p
        rw [hrd] at hIH hstep
        have HC := hid hIH
        have HST := hid hstep
        have hlt := readF_lt hrd
        clear hIH hstep
        go_upto_region 20 with (go_at_call 52; refine HC.out.mono ?_; rintro e w2 ⟨hb2, x, ar2, cr2, rfl, ⟨x0, x1, x2, x3, rfl, hv2⟩, hr2⟩; obtain ⟨hvn, vb, vl, kv, hce, hbv, hrv, _⟩ := hv2.cells; obtain ⟨ab, cb, rfl, _⟩ := hbv; obtain ⟨_, al2, cl2, rfl, _⟩ := hrv; simp only [List.cons.injEq, and_true] at hce; obtain ⟨rfl, rfl, rfl, rfl⟩ := hce; obtain ⟨hc2, hf2⟩ := wold hb2; have hsz2 : wr.heap.size < w2.heap.size := (by have := hb2.size; simp at this; omega))
        have hFX := ((((Fr.refl (· = wr.heap.size) w2).set1 0 (.int .i64 v.tag)).set1 1 (.int .u64 (v.num : Int))).set1 2 (.slice ab v.byt.length cb)).set1 3 (.slice al2 v.lst.length cl2)
        have hxX := heap_store (heap_store (heap_store (heap_store ((hb2.block _ (by simp)).trans (heap_alloc_new wr _)) 0 (.int .i64 v.tag)) 1 (.int .u64 (v.num : Int))) 2 (.slice ab v.byt.length cb)) 3 (.slice al2 v.lst.length cl2)
        have hF0 : Fr (fun _ => False) wr w2 := ((Fr.refl (fun _ => False) wr).alloc _).trans (Fr.of_below hb2)
        generalize (((w2.setCell ⟨wr.heap.size, 0, none⟩ (.int .i64 v.tag)).setCell ⟨wr.heap.size, 1, none⟩ (.int .u64 (v.num : Int))).setCell ⟨wr.heap.size, 2, none⟩ (.slice ab v.byt.length cb)).setCell ⟨wr.heap.size, 3, none⟩ (.slice al2 v.lst.length cl2) = w3 at *
        have hF3 : Fr (fun _ => False) wr w3 := hF0.trans' hFX (fun k hk e => by omega)
        have hsz3 : w2.heap.size ≤ w3.heap.size := hFX.size
        have hv3 : TVr (fun k => SN S w0 k ∧ k < wr.heap.size + 1) w3 v [.int .i64 v.tag, .int .u64 (v.num : Int), .slice ab v.byt.length cb, .slice al2 v.lst.length cl2] := TVr.fr hFX (fun k hk e => ⟨.inr (by omega), by omega⟩) _ _ hv2
        have hr3 : Bs (SN S w0) w3 (.slice ar2 r'.length cr2) r' := (hr2.fr hFX (fun k hk e => .inl ⟨.inr (by omega), by omega⟩)).mono (fun k hk hs => by
          by_cases hlt : k < wr.heap.size + 1
          · exact .inl ⟨hs, hlt⟩
          · exact .inr (by simp; omega))
        have hX0 := cell_of_heap hxX 0
        have hX1 := cell_of_heap hxX 1
        have hX2 := cell_of_heap hxX 2
        have hX3 := cell_of_heap hxX 3
        simp at hX0 hX1 hX2 hX3
        have b3' : w3.cell? ⟨w0.heap.size, 3, none⟩ = some (.slice al l.length cl) := (hF3.cell (p := ⟨w0.heap.size, 3, none⟩) (by simp; omega) id).trans b3
        have z3' : w3.frozen? ⟨w0.heap.size, 3, none⟩ = false := (hF3.frozen (p := ⟨w0.heap.size, 3, none⟩) (by simp; omega) id).trans z3
        have hrr3 := HRR.out.fr hF3 (fun _ _ h => h.elim)
        have HV3 := hid hv3
        have HR3 := hid hr3
        have HF3 := hid hF3
        have HRR3 := hid hrr3
        have hbase : w0.heap.size + 1 ≤ w3.heap.size := by omega
        have hll : (l.length + 1) * 64 ≤ 140737488355328 := by have := HIN.out; have := h3; omega
        clear hv3 hr3 hF3 hrr3 hF0 hFX hb2 hc2 hf2 hv2 hr2 b0 b1 b2 b3 z0 z1 z2 z3 hxX
        have HNM : ¬ mine (.slice al l.length cl) w0.heap.size := fun hk => by have := (Own.mine_ge HL.out.own hk).1; omega
        go_wp2_with (at_builtin; refine wpl_append (v := .slice al l.length cl) (S := fun _ => False) rfl rfl et_cloneV rfl (Own.fr (Own.fr HL.out.own HF3.out (fun _ _ h => h)) (by repeat (first | exact Fr.refl _ _ | refine Fr.drew ?_ | refine Fr.alloc ?_ _)) (fun _ _ h => h)) rfl (row_atk (heap_alloc_new w3 _) rfl (by omega)) (by simp [Value.oneCell']) (by omega) (by simp; omega) ?_; intro v5 w5 ho5 hf5 hm5; obtain ⟨a5, c5, rfl, _⟩ := ho5.len; have hc5 : w5.cell? ⟨w0.heap.size, 3, none⟩ = some (.slice al l.length cl) := (hf5.cell (p := ⟨w0.heap.size, 3, none⟩) (by simp; omega) HNM).trans ((((Fr.refl (fun _ => False) w3).alloc _).cell (p := ⟨w0.heap.size, 3, none⟩) (by simp; omega) id).trans b3'); have hz5 : w5.frozen? ⟨w0.heap.size, 3, none⟩ = false := (hf5.frozen (p := ⟨w0.heap.size, 3, none⟩) (by simp; omega) HNM).trans ((((Fr.refl (fun _ => False) w3).alloc _).frozen (p := ⟨w0.heap.size, 3, none⟩) (by simp; omega) id).trans z3'))
        go_roundw
        case rel =>
          have hst := LS.step (v := v) HL.out (HF3.out.alloc _) (TVr.fr ((Fr.refl (fun _ => False) w3).alloc _) (fun _ _ h => h.elim) _ _ HV3.out) (fun k hk hs => by
            rcases hs with hs | hs | hs
            · have := HSB.out k hs
              exact ⟨.inl hs, by omega⟩
            · exact ⟨.inr (by omega), by omega⟩
            · have := Own.mine_ge HL.out.own hs
              exact ⟨.inr (by omega), by omega⟩) ho5 (by simp) hf5 hm5
          have hfin := hst.2
          refine ⟨l ++ [v], r', ar2, cr2, a5, c5, _, rfl, rfl, ?_, hst.1, ?_, ?_, ?_⟩
          · exact HR3.out.fr ((((Fr.refl (fun k => w0.heap.size ≤ k) w3).alloc _).trans (hf5.mono (fun k _ hs => by have := (Own.mine_ge HL.out.own hs).1; omega))).setCell (p := ⟨w0.heap.size, 3, none⟩) (fun _ => Nat.le_refl _) _) (fun k hk hs => .inr hs)
          · rw [HR.out, HST.out, Option.bind_some, Option.map_map]
            congr 1
            funext y
            simp
          · simp only [List.length_append, List.length_cons, List.length_nil]; omega
          · exact HRR.out.fr hfin (fun k hk hs => .inr hs)
        case measure => simp [slen]; omega
end Go.Proofs.Ytpomfegcifpfkaa
/- tlv's read, whole. -/
namespace Go.Proofs.Ytpomfegcifpfkaa
open Go Go.RowKit
theorem read_ok : ∀ (d : Nat), d < 100 → ∀ (S : Nat → Prop) (b : Value) (xs : List UInt8) (w : World), SB S w → Bs S w b xs → Calls Try.prog 52 #[b, .int .i64 (d : Int)] w (RetR S w (readF d xs)) := by
  intro d
  induction d with
  | zero =>
    intro _ S b xs w hSB hb
    rw [readF]
    unfold readWith
    cases hs : splitF xs with
    | none => exact read_short 0 b xs w hb hs
    | some x =>
      obtain ⟨t, i, r⟩ := x
      rw [Option.bind_some]
      simp only
      split
      · rename_i h1
        split
        · rename_i h2; exact read_num 0 b xs w hb t i r hs h1 h2.1 h2.2
        · rename_i h2; exact read_else 0 b xs w hb t i r hs (fun _ => h2) (by omega) (by omega)
      · rename_i h1
        split
        · rename_i h2; exact read_bytes 0 b xs w hb hSB t i r hs h2
        · rename_i h2
          split
          · exact read_else 0 b xs w hb t i r hs (fun h => absurd h h1) h2 (fun _ => rfl)
          · exact read_else 0 b xs w hb t i r hs (fun h => absurd h h1) h2 (fun _ => rfl)
  | succ d ih =>
    intro hd S b xs w hSB hb
    rw [readF]
    unfold readWith
    cases hs : splitF xs with
    | none => exact read_short (d + 1) b xs w hb hs
    | some x =>
      obtain ⟨t, i, r⟩ := x
      rw [Option.bind_some]
      simp only
      split
      · rename_i h1
        split
        · rename_i h2; exact read_num (d + 1) b xs w hb t i r hs h1 h2.1 h2.2
        · rename_i h2; exact read_else (d + 1) b xs w hb t i r hs (fun _ => h2) (by omega) (by omega)
      · rename_i h1
        split
        · rename_i h2; exact read_bytes (d + 1) b xs w hb hSB t i r hs h2
        · rename_i h2
          split
          · rename_i h3
            exact read_list hSB d (by omega) b xs w rfl hb t i r hs h3 (fun S b xs w hS hb => ih (by omega) S b xs w hS hb)
          · rename_i h3
            exact read_else (d + 1) b xs w hb t i r hs (fun h => absurd h h1) h2 (fun h => absurd h h3)
end Go.Proofs.Ytpomfegcifpfkaa
