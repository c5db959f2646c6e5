/- tlv's split: tag, what is in a form, what is behind it. -/
import Derived.Test.YtelijfdpgachnaaTlvPut
namespace Go.Proofs.Ytelijfdpgachnaa
open Go Go.RowKit
theorem Bs.sub {S : Nat → Prop} {w : World} {b off c c' n : Nat} {xs ys : List UInt8} (h : Bs S w (.slice (some ⟨b, off, none⟩) xs.length c) xs) (lo : Nat) (hn : ys.length = n) (hc : n ≤ c') (hc' : c' ≤ c) (hy : ∀ i y, ys[i]? = some y → xs[lo + i]? = some y) (hl : n ≤ xs.length) :
    Bs S w (.slice (some ⟨b, off + lo, none⟩) n c') ys := by
  obtain ⟨a, c1, h1, h2, h3', h4⟩ := h
  injection h1 with e1 _ e3
  subst e1 e3
  refine ⟨some ⟨b, off + lo, none⟩, c', by rw [hn], ⟨by omega, by have := h2.2.1; omega, by have := h2.2.2; omega⟩, (fun h => nomatch h), ?_⟩
  rcases h4 with h4 | ⟨b', off', e1, e2, e3, e4⟩
  · subst h4
    simp only [List.length_nil] at hl
    exact .inl (List.eq_nil_of_length_eq_zero (by omega))
  · injection e1 with e1
    injection e1 with e1 e5 _
    subst e1 e5
    exact .inr ⟨b, off + lo, rfl, e2, e3, fun i y hy' => by rw [Nat.add_assoc]; exact e4 _ y (hy i y hy')⟩
theorem Bs.empty (S : Nat → Prop) (w : World) (a : Addr) (c : Nat) (hc : c ≤ maxLen) : Bs S w (.slice (some a) 0 c) [] := ⟨some a, c, rfl, ⟨Nat.zero_le _, Nat.zero_le _, hc⟩, (fun h => nomatch h), .inl rfl⟩
theorem or_bytes (x y : UInt8) : bits .or .i64 ((x.toNat : Int) * 256) (y.toNat : Int) = ((x.toNat * 256 + y.toNat : Nat) : Int) := by
  have hx := x.toNat_lt
  have hy := y.toNat_lt
  have h1 : (BitVec.ofInt 64 ((x.toNat : Int) * 256)).toNat = x.toNat * 256 := by
    rw [show ((x.toNat : Int) * 256) = ((x.toNat * 256 : Nat) : Int) by omega, BitVec.ofInt_natCast, BitVec.toNat_ofNat]; omega
  have h2 : (BitVec.ofInt 64 (y.toNat : Int)).toNat = y.toNat := by rw [BitVec.ofInt_natCast, BitVec.toNat_ofNat]; omega
  show IntKind.i64.wrap ((BitVec.ofInt 64 ((x.toNat : Int) * 256) ||| BitVec.ofInt 64 (y.toNat : Int)).toNat : Int) = _
  rw [BitVec.toNat_or, h1, h2]
  have h3 : x.toNat * 256 ||| y.toNat = x.toNat * 256 + y.toNat := by
    rw [show x.toNat * 256 = 2 ^ 8 * x.toNat by omega, Nat.two_pow_add_eq_or_of_lt (by omega)]
  rw [h3, IntKind.wrap_i64]; omega
theorem results_tmp4' {fn : Func} {t u v x : Tmp} (h : fn.results = #[.tmp t, .tmp u, .tmp v, .tmp x]) (tmps : Array Value) (P : Program) (w : World) :
    (results fn tmps).run P w = .ok (.tuple #[tmps.getD t undef, tmps.getD u undef, tmps.getD v undef, tmps.getD x undef]) w := by simp [results, h]
def RetS (S : Nat → Prop) (w : World) (r : Option (UInt8 × List UInt8 × List UInt8)) (e : Ending) (w' : World) : Prop :=
  Below w.heap.size w w' ∧ match r with
  | none => e = .returned (.tuple #[.int .i64 0, .slice none 0 0, .slice none 0 0, .bool false])
  | some (t, i, r) => ∃ ai ci ar cr, e = .returned (.tuple #[.int .i64 (t.toNat : Int), .slice ai i.length ci, .slice ar r.length cr, .bool true]) ∧ Bs S w' (.slice ai i.length ci) i ∧ Bs S w' (.slice ar r.length cr) r
theorem RetS.no {S : Nat → Prop} {w w' : World} (h : Below w.heap.size w w') : RetS S w none (.returned (.tuple #[.int .i64 0, .slice none 0 0, .slice none 0 0, .bool false])) w' := ⟨h, rfl⟩
theorem RetS.yes {S : Nat → Prop} {w w' : World} {t : UInt8} {i r : List UInt8} {ai ar : Option Addr} {ci cr n m : Nat} (h : Below w.heap.size w w') (hn : i.length = n) (hm : r.length = m) (h1 : Bs S w' (.slice ai n ci) i) (h2 : Bs S w' (.slice ar m cr) r) :
    RetS S w (some (t, i, r)) (.returned (.tuple #[.int .i64 (t.toNat : Int), .slice ai n ci, .slice ar m cr, .bool true])) w' := by
  subst hn hm; exact ⟨h, _, _, _, _, rfl, h1, h2⟩
set_option maxRecDepth 100000 in
set_option maxHeartbeats 1000000 in
theorem split_ok {S : Nat → Prop} (v : Value) (xs : List UInt8) (w : World) (hb : Bs S w v xs) : Calls Try.prog 141 #[v] w (RetS S w (splitF xs)) := by
  have HB := hid hb
  obtain ⟨a, c, rfl, ⟨hlc, hlim, hcm⟩, _, h4⟩ := hb
  unfold maxLen at hcm
  match xs, h4 with
  | [], _ =>
    rw [show splitF [] = none from rfl]
    go_enter Try.func141, Try.ntmps141
    go_wp2
    refine bodyPost_ret (results_tmp4' rfl _ _ _) rfl (RetS.no (Below.refl _ _))
  | [p], _ =>
    rw [show splitF [p] = none from rfl]
    go_enter Try.func141, Try.ntmps141
    go_wp2
    refine bodyPost_ret (results_tmp4' rfl _ _ _) rfl (RetS.no (Below.refl _ _))
  | [p, q], _ =>
    rw [show splitF [p, q] = none from rfl]
    go_enter Try.func141, Try.ntmps141
    go_wp2
    refine bodyPost_ret (results_tmp4' rfl _ _ _) rfl (RetS.no (Below.refl _ _))
  | t :: x :: y :: r, h4 =>
    rcases h4 with h | ⟨b, off, ha, hbl, hS, hcell⟩
    · cases h
    subst ha
    have k0 := hcell 0 t rfl
    have k1 := hcell 1 x rfl
    have k2 := hcell 2 y rfl
    rw [Nat.add_zero] at k0
    have ho := or_bytes x y
    have hx := u8_lt x
    have ht := u8_lt t
    have ht0 : (0 : Int) ≤ (t.toNat : Int) := by omega
    have hy := u8_lt y
    have HL := hid (show (t :: x :: y :: r).length = r.length + 3 from rfl)
    have hl : (t :: x :: y :: r).length = r.length + 3 := rfl
    rw [hl] at hlc hlim ⊢
    clear hcell hl
    have HF := hid (show splitF (t :: x :: y :: r) = if x.toNat * 256 + y.toNat ≤ r.length then some (t, r.take (x.toNat * 256 + y.toNat), r.drop (x.toNat * 256 + y.toNat)) else none from rfl)
    rw [HF.out]
    generalize hn : x.toNat * 256 + y.toNat = n at *
    have HN := hid hn
    clear hn
    by_cases hnr : n ≤ r.length
    · rw [if_pos hnr]
      go_enter Try.func141, Try.ntmps141
      go_wp2
      go_quiet (fail)
      go_wp2
      have q1 : IntKind.i64.wrap (3 + (n : Int)) = 3 + (n : Int) := IntWalk.i64_in _ (by omega)
      have q2 : (0 : Int) ≤ 3 + (n : Int) := by omega
      have q3 : (3 + (n : Int)).toNat = 3 + n := by omega
      have q4 : 3 + n ≤ c := by omega
      have q5 : 3 + n ≤ r.length + 3 := by omega
      have q6 : (3 : Int) ≤ 3 + (n : Int) := by omega
      have q7 : 3 + (n : Int) ≤ (c : Int) := by omega
      have q8 : 3 + (n : Int) ≤ (r.length : Int) + 3 := by omega
      go_quiet (fail)
      go_wp2
      · obtain rfl : r = [] := List.eq_nil_of_length_eq_zero (by omega)
        exact bodyPost_ret (results_tmp4' rfl _ _ _) rfl (RetS.yes (below_dN (Below.refl _ _) _) rfl rfl (Bs.empty _ _ _ _ (by unfold maxLen; omega)) (Bs.empty _ _ _ _ (by unfold maxLen; omega)))
      · have hr0 : r.drop n = [] := List.drop_eq_nil_of_le (by omega)
        rw [hr0]
        have hBw := fun m => HB.out.fr (Fr.of_below (S := fun _ => False) (below_dN (Below.refl w.heap.size w) m)) (fun _ _ h => h.elim)
        refine bodyPost_ret (results_tmp4' rfl _ _ _) rfl (RetS.yes (below_dN (Below.refl _ _) _) (by simp; omega) (by simp; omega) (Bs.sub (hBw _) 3 (by simp; omega) (by omega) (by omega) (fun i y hy => ?_) (by simp; omega)) ?_)
        · have hi : i < n := by have := (List.getElem?_eq_some_iff.1 hy).1; simp at this; omega
          rw [List.getElem?_take_of_lt hi] at hy
          rw [Nat.add_comm]; exact hy
        · rw [show r.length + 3 - (3 + n) = 0 by omega]
          exact Bs.empty _ _ _ _ (by unfold maxLen; omega)
      · have hBw := fun m => HB.out.fr (Fr.of_below (S := fun _ => False) (below_dN (Below.refl w.heap.size w) m)) (fun _ _ h => h.elim)
        refine bodyPost_ret (results_tmp4' rfl _ _ _) rfl (RetS.yes (below_dN (Below.refl _ _) _) (by simp; omega) (by simp; omega) (Bs.sub (hBw _) 3 (by simp; omega) (by omega) (by omega) (fun i y hy => ?_) (by simp; omega)) (Bs.sub (hBw _) (3 + n) (by rw [List.length_drop]; omega) (by omega) (by omega) (fun i y hy => ?_) (by simp only [List.length_cons]; omega)))
        · have hi : i < n := by have := (List.getElem?_eq_some_iff.1 hy).1; simp at this; omega
          rw [List.getElem?_take_of_lt hi] at hy
          rw [Nat.add_comm]; exact hy
        · rw [List.getElem?_drop] at hy
          rw [show 3 + n + i = (n + i) + 3 by omega]; exact hy
    · rw [if_neg hnr]
      go_enter Try.func141, Try.ntmps141
      go_wp2
      go_quiet (fail)
      go_wp2
      refine bodyPost_ret (results_tmp4' rfl _ _ _) rfl (RetS.no (below_dN (Below.refl _ _) _))
end Go.Proofs.Ytelijfdpgachnaa
/- tlv's read: the value that bytes begin with. -/
namespace Go.Proofs.Ytelijfdpgachnaa
open Go Go.RowKit
/-- Blocks of S are old. -/
def SB (S : Nat → Prop) (w : World) : Prop := ∀ k, S k → k < w.heap.size
theorem SB.ok {S : Nat → Prop} {w w' : World} (h : SB S w) : Sok S w w' := fun k hk _ hs => by have := h k hs; omega
theorem SB.later {S : Nat → Prop} {w w' : World} (h : SB S w) (hl : w.heap.size ≤ w'.heap.size) : SB S w' := fun k hk => Nat.lt_of_lt_of_le (h k hk) hl
/-- S, and all that is new. -/
def SN (S : Nat → Prop) (w : World) (k : Nat) : Prop := S k ∨ w.heap.size ≤ k
/-- What read answers. -/
def RetR (S : Nat → Prop) (w : World) (r : Option (TV × List UInt8)) (e : Ending) (w' : World) : Prop :=
  Below w.heap.size w w' ∧ match r with
  | none => e = .returned (.tuple #[.agg #[.int .i64 0, .int .u64 0, .slice none 0 0, .slice none 0 0], .slice none 0 0, .bool false])
  | some (v, r) => ∃ x ar cr, e = .returned (.tuple #[x, .slice ar r.length cr, .bool true]) ∧ TVv S w' v x ∧ Bs (SN S w) w' (.slice ar r.length cr) r
theorem RetR.no {S : Nat → Prop} {w w' : World} (h : Below w.heap.size w w') : RetR S w none (.returned (.tuple #[.agg #[.int .i64 0, .int .u64 0, .slice none 0 0, .slice none 0 0], .slice none 0 0, .bool false])) w' := ⟨h, rfl⟩
theorem RetR.yes {S : Nat → Prop} {w w' : World} {v : TV} {x : Value} {r : List UInt8} {ar : Option Addr} {cr : Nat} (h : Below w.heap.size w w') (h1 : TVv S w' v x) (h2 : Bs (SN S w) w' (.slice ar r.length cr) r) :
    RetR S w (some (v, r)) (.returned (.tuple #[x, .slice ar r.length cr, .bool true])) w' := ⟨h, _, _, _, rfl, h1, h2⟩
set_option maxRecDepth 100000 in
set_option maxHeartbeats 1000000 in
theorem read_short {S : Nat → Prop} (d : Nat) (b : Value) (xs : List UInt8) (w : World) (hb : Bs S w b xs) (hsp : splitF xs = none) :
    Calls Try.prog 115 #[b, .int .i64 (d : Int)] w (RetR S w none) := by
  have HS := hid (show ∀ w', Bs S w' b xs → Calls Try.prog 141 #[b] w' (RetS S w' none) from fun w' h => hsp ▸ split_ok b xs w' h)
  have HB := hid hb
  clear hb hsp
  go_enter Try.func115, Try.ntmps115
  go_wp2_with (go_at_call 141; refine (HS.out _ (HB.out.fr ((Fr.refl (fun _ => False) w).alloc _) (fun _ _ h => h.elim))).mono ?_; rintro e w1 ⟨hb1, rfl⟩; obtain ⟨hc1, hf1⟩ := wold hb1; have hsz1 : w.heap.size < w1.heap.size := (by have := hb1.size; simp at this; omega))
  have hB : Below w.heap.size w w1 := ((Below.refl _ _).alloc (Nat.le_refl _) _).trans (hb1.mono (by simp))
  refine bodyPost_ret (v := .tuple #[.agg #[.int .i64 0, .int .u64 0, .slice none 0 0, .slice none 0 0], .slice none 0 0, .bool false]) (by simp [results, Try.results115, go_sem, hc1]) rfl (RetR.no ?_)
  exact (((hB.setCell (Nat.le_refl _) _).setCell (Nat.le_refl _) _).setCell (Nat.le_refl _) _).setCell (Nat.le_refl _) _
section
variable {P : Program}
/-- Three results, the first one a struct in memory. -/
theorem results_ctt {fn : Func} {p u v : Tmp} {ty : TypeId} (h : fn.results = #[.cell p ty, .tmp u, .tmp v]) (tmps : Array Value) (w : World) (g : Nat) (t : TypeId) (cs : Array Value) (fr : Nat × Nat) (d : TypeDesc)
    (hp : tmps.getD p undef = .pointer (some ⟨g, 0, none⟩)) (hg : w.heap[g]? = some (.cells cs t fr))
    (hu : P.underlying ty = some d) (hd : (match d with | .struct _ | .array _ _ => true | _ => false) = true) (hi : (P.info? ty).map (·.size) = some cs.size) :
    (results fn tmps).run P w = .ok (.tuple #[.agg cs, tmps.getD u undef, tmps.getD v undef]) w := by
  have hp' : tmps[p]?.getD undef = .pointer (some ⟨g, 0, none⟩) := by simpa using hp
  simp [results, h, hp', asAddr, run_loadVar_row w g t ty cs fr d hg hu hd hi]
/-- Two results, the first one a struct in memory. -/
theorem results_ct {fn : Func} {p u : Tmp} {ty : TypeId} (h : fn.results = #[.cell p ty, .tmp u]) (tmps : Array Value) (w : World) (g : Nat) (t : TypeId) (cs : Array Value) (fr : Nat × Nat) (d : TypeDesc)
    (hp : tmps.getD p undef = .pointer (some ⟨g, 0, none⟩)) (hg : w.heap[g]? = some (.cells cs t fr))
    (hu : P.underlying ty = some d) (hd : (match d with | .struct _ | .array _ _ => true | _ => false) = true) (hi : (P.info? ty).map (·.size) = some cs.size) :
    (results fn tmps).run P w = .ok (.tuple #[.agg cs, tmps.getD u undef]) w := by
  have hp' : tmps[p]?.getD undef = .pointer (some ⟨g, 0, none⟩) := by simpa using hp
  simp [results, h, hp', asAddr, run_loadVar_row w g t ty cs fr d hg hu hd hi]
end
theorem Bs.new {S S0 : Nat → Prop} {w w' : World} {v : Value} {xs : List UInt8} (h : Bs S w v xs) (hf : Fr S0 w w') (h0 : ∀ k, k < w.heap.size → S0 k → S k) : Bs (SN S w) w' v xs :=
  h.shift hf h0 (fun k hk hs => hs.elim id (fun hl => absurd hk (by omega)))
theorem Bs.old {S : Nat → Prop} {w w' : World} {v : Value} {xs : List UInt8} (h : Bs (SN S w) w' v xs) : Bs S w' v xs := h.mono (fun _ _ hs => .inl hs)
set_option maxRecDepth 100000 in
set_option maxHeartbeats 1000000 in
theorem read_bytes {S : Nat → Prop} (d : Nat) (b : Value) (xs : List UInt8) (w : World) (hb : Bs S w b xs) (hSB : SB S w) (t : UInt8) (i r : List UInt8) (hsp : splitF xs = some (t, i, r)) (ht : t.toNat = 2) :
    Calls Try.prog 115 #[b, .int .i64 (d : Int)] w (RetR S w (some (.mk 2 0 i [], r))) := by
  have HS := hid (show ∀ w', Bs (SN S w) w' b xs → Calls Try.prog 141 #[b] w' (RetS (SN S w) w' (some (t, i, r))) from fun w' h => hsp ▸ split_ok b xs w' h)
  have HB := hid hb
  have ht' : (t.toNat : Int) = 2 := by omega
  clear hb hsp ht
  go_enter Try.func115, Try.ntmps115
  go_wp2_with (first | (go_at_call 141; refine (HS.out _ (HB.out.new ((Fr.refl (fun _ => False) w).alloc _) (fun _ _ h => h.elim))).mono ?_; rintro e w1 ⟨hb1, ai, ci, ar, cr, rfl, hbi, hbr⟩; obtain ⟨hc1, hf1⟩ := wold hb1; have hsz1 : w.heap.size < w1.heap.size := (by have := hb1.size; simp at this; omega)) | (go_at_call 111; refine (cloneB_ok (S := SN S w) _ i _ (hbi.fr ((Fr.refl (· = w.heap.size) w1).set1 _ _) (fun k hk h => .inr (by omega)))).mono ?_; rintro e w2 ⟨v2, rfl, ho2, hb2⟩; obtain ⟨a2, c2, rfl, _⟩ := ho2.len; obtain ⟨hc2, hf2⟩ := wold hb2; have hsz2 : w.heap.size < w2.heap.size := (by have := hb2.size; simp [World.setCell] at this; omega)))
  have hB : Below w.heap.size w w1 := ((Below.refl _ _).alloc (Nat.le_refl _) _).trans (hb1.mono (by simp))
  have hB2 : Below w.heap.size w w2 := (hB.setCell (p := ⟨w.heap.size, 0, none⟩) (Nat.le_refl _) _).trans (hb2.mono (by have := hB.size; simp [World.setCell]; omega))
  have hx1 : w1.heap[w.heap.size]? = some (.cells #[.int .i64 0, .int .u64 0, .slice none 0 0, .slice none 0 0] 112 (0, 0)) := by
    rw [hb1.block _ (by simp)]; exact heap_alloc_new w _
  have hx2 : w2.heap[w.heap.size]? = some (.cells #[.int .i64 2, .int .u64 0, .slice none 0 0, .slice none 0 0] 112 (0, 0)) := by
    rw [hb2.block _ (by simp [World.setCell]; omega)]; exact heap_store hx1 0 _
  have hx3 := heap_store (heap_store (heap_store (heap_store (heap_store hx2 2 (.slice a2 i.length c2)) 0 (.int .i64 2)) 1 (.int .u64 0)) 2 (.slice a2 i.length c2)) 3 (.slice none 0 0)
  have hF : Fr (· = w.heap.size) w2 (((((w2.setCell ⟨w.heap.size, 2, none⟩ (.slice a2 i.length c2)).setCell ⟨w.heap.size, 0, none⟩ (.int .i64 2)).setCell ⟨w.heap.size, 1, none⟩ (.int .u64 0)).setCell ⟨w.heap.size, 2, none⟩ (.slice a2 i.length c2)).setCell ⟨w.heap.size, 3, none⟩ (.slice none 0 0)) :=
    (((((Fr.refl (· = w.heap.size) w2).set1 _ _).set1 _ _).set1 _ _).set1 _ _).set1 _ _
  have hB3 : Below w.heap.size w (((((w2.setCell ⟨w.heap.size, 2, none⟩ (.slice a2 i.length c2)).setCell ⟨w.heap.size, 0, none⟩ (.int .i64 2)).setCell ⟨w.heap.size, 1, none⟩ (.int .u64 0)).setCell ⟨w.heap.size, 2, none⟩ (.slice a2 i.length c2)).setCell ⟨w.heap.size, 3, none⟩ (.slice none 0 0)) := Below.fr hB2 hF (fun i hi e => by omega)
  have ho3 : OwnB _ _ _ _ := Own.fr ho2 hF (fun k hk he => by have := (Own.mine_ge ho2 hk).1; simp [World.setCell] at this; omega)
  have hr3 := ((hbr.fr ((Fr.refl (· = w.heap.size) w1).set1 0 (.int .i64 2)) (fun k hk h => .inr (by omega))).fr (Fr.of_below (S := fun _ => False) hb2) (fun _ _ h => h.elim)).fr hF (fun k hk h => .inr (by omega))
  refine bodyPost_ret (results_ctt rfl _ _ w.heap.size _ _ _ _ rfl hx3 Try.underlying112 rfl (by kernel_rfl)) rfl (RetR.yes hB3 ⟨_, _, _, _, rfl, ?_⟩ hr3)
  rw [TVr]
  exact ⟨by omega, _, _, [], rfl, ho3.bs (fun k hk _ hs => by have := hSB k hs; simp [World.setCell] at hk; omega), ⟨rfl, none, 0, rfl, ⟨Nat.le_refl _, Nat.zero_le _, Nat.zero_le _⟩, fun _ => rfl, .inl rfl⟩, by rw [TVch]⟩
end Go.Proofs.Ytelijfdpgachnaa
/- tlv's read of a number. -/
namespace Go.Proofs.Ytelijfdpgachnaa
open Go Go.RowKit
theorem or_u64 (x : Nat) (y : UInt8) (h : x < 72057594037927936) : bits .or .u64 ((x : Int) * 256) (y.toNat : Int) = ((x * 256 + y.toNat : Nat) : Int) := by
  have hy := y.toNat_lt
  have h1 : (BitVec.ofInt 64 ((x : Int) * 256)).toNat = x * 256 := by
    rw [show ((x : Int) * 256) = ((x * 256 : Nat) : Int) by omega, BitVec.ofInt_natCast, BitVec.toNat_ofNat]; omega
  have h2 : (BitVec.ofInt 64 (y.toNat : Int)).toNat = y.toNat := by rw [BitVec.ofInt_natCast, BitVec.toNat_ofNat]; omega
  show IntKind.u64.wrap ((BitVec.ofInt 64 ((x : Int) * 256) ||| BitVec.ofInt 64 (y.toNat : Int)).toNat : Int) = _
  rw [BitVec.toNat_or, h1, h2]
  have h3 : x * 256 ||| y.toNat = x * 256 + y.toNat := by
    rw [show x * 256 = 2 ^ 8 * x by omega, Nat.two_pow_add_eq_or_of_lt (by omega)]
  rw [h3]
  simp [IntKind.wrap, IntKind.signed, IntKind.bits]; omega
theorem bytesNum_snoc (l : List UInt8) (k : Nat) (h : k < l.length) : bytesNum (l.take (k + 1)) = bytesNum (l.take k) * 256 + l[k].toNat := by
  rw [List.take_succ_eq_append_getElem h, bytesNum, List.foldl_append]; rfl
theorem bytesNum_lt (l : List UInt8) (k : Nat) : bytesNum (l.take k) < 256 ^ k := by
  induction k with
  | zero => simp [bytesNum]
  | succ k ih =>
    by_cases h : k < l.length
    · rw [bytesNum_snoc l k h, Nat.pow_succ]
      have := l[k].toNat_lt
      have : bytesNum (l.take k) + 1 ≤ 256 ^ k := ih
      have := Nat.mul_le_mul_right 256 this
      omega
    · rw [List.take_of_length_le (by omega)] at ih ⊢
      rw [Nat.pow_succ]; omega
set_option maxRecDepth 100000 in
set_option maxHeartbeats 2000000 in
theorem read_num {S : Nat → Prop} (d : Nat) (b : Value) (xs : List UInt8) (w : World) (hb : Bs S w b xs) (t : UInt8) (i r : List UInt8) (hsp : splitF xs = some (t, i, r)) (ht : t.toNat = 1) (h8 : i.length ≤ 8) (h0 : i.head? ≠ some 0) :
    Calls Try.prog 115 #[b, .int .i64 (d : Int)] w (RetR S w (some (.mk 1 (bytesNum i) [] [], r))) := by
  have HS := hid (show ∀ w', Bs (SN S w) w' b xs → Calls Try.prog 141 #[b] w' (RetS (SN S w) w' (some (t, i, r))) from fun w' h => hsp ▸ split_ok b xs w' h)
  have HB := hid hb
  have ht' : (t.toNat : Int) = 1 := by omega
  clear hb hsp ht
  have H0 := hid h0
  clear h0
  go_enter Try.func115, Try.ntmps115
  go_upto_block 0 with (go_at_call 141; refine (HS.out _ (HB.out.new ((Fr.refl (fun _ => False) w).alloc _) (fun _ _ h => h.elim))).mono ?_; rintro e w1 ⟨hb1, ai, ci, ar, cr, rfl, hbi, hbr⟩; obtain ⟨hc1, hf1⟩ := wold hb1; have hsz1 : w.heap.size < w1.heap.size := (by have := hb1.size; simp at this; omega))
  have hB : Below w.heap.size w w1 := ((Below.refl _ _).alloc (Nat.le_refl _) _).trans (hb1.mono (by simp))
  have hx1 : w1.heap[w.heap.size]? = some (.cells #[.int .i64 0, .int .u64 0, .slice none 0 0, .slice none 0 0] 112 (0, 0)) := by
    rw [hb1.block _ (by simp)]; exact heap_alloc_new w _
  have hxt := heap_store hx1 0 (.int .i64 1)
  have hFt := (Fr.refl (· = w.heap.size) w1).set1 0 (.int .i64 1)
  generalize w1.setCell ⟨w.heap.size, 0, none⟩ (.int .i64 1) = wt at *
  have hbt := hbi.fr hFt (fun k hk h => .inr (by omega))
  have hrt := hbr.fr hFt (fun k hk h => .inr (by omega))
  have hBt : Below w.heap.size w wt := Below.fr hB hFt (fun i hi e => by omega)
  have HBT := hid hbt
  have HRT := hid hrt
  have HXT := hid hxt
  have HBE := hid hBt
  obtain ⟨_, _, hsl, ⟨hf1a, hf2a, hf3a⟩, _, h4⟩ := hbt
  injection hsl with e1 _ e3
  subst e1 e3
  unfold maxLen at hf3a
  have H4 := hid h4
  clear hrt hBt hxt hFt hx1 hB hc1 hf1 hb1 hbi hbr h4
  have hle8 : decide ((i.length : Int) ≤ 8) = true := by simp; omega
  have hcase : ((i.length : Int) == 0) = true ∨ (((i.length : Int) == 0) = false ∧ ∃ c0 : Int, (c0 != 0) = true ∧ ∃ blk off, ai = some ⟨blk, off, none⟩ ∧ wt.cell? ⟨blk, off, none⟩ = some (.int .u8 c0) ∧ 0 < (i.length : Int)) := by
    cases i with
    | nil => exact .inl rfl
    | cons c0 i =>
      refine .inr ⟨by simp only [List.length_cons, beq_eq_false_iff_ne, ne_eq]; omega, (c0.toNat : Int), ?_, ?_⟩
      · have := H0.out
        simp only [List.head?_cons, ne_eq, Option.some.injEq] at this
        simp only [bne_iff_ne, ne_eq]
        intro hh
        exact this (UInt8.toNat_inj.1 (by simpa using hh))
      · rcases H4.out with h | ⟨blk, off, ha, _, _, hc⟩
        · cases h
        · exact ⟨blk, off, ha, by have := hc 0 c0 rfl; rwa [Nat.add_zero] at this, by simp only [List.length_cons]; omega⟩
  rcases hcase with hz | ⟨hz, c0, hc0, blk, off, rfl, hcell, hpos⟩
  all_goals
    go_wp2
    go_loopw [10, 46] (fun _ j wr => ∃ k : Nat, k ≤ i.length ∧ j = .int .i64 ((k : Nat) : Int) ∧ wr.heap[w.heap.size]? = some (.cells #[.int .i64 1, .int .u64 ((bytesNum (i.take k) : Nat) : Int), .slice none 0 0, .slice none 0 0] 112 (0, 0)) ∧ Fr (· = w.heap.size) wt wr) (fun _ j _ => i.length - (intOf j).toNat)
    case atStart => exact ⟨0, by omega, rfl, by rw [List.take_zero]; exact HXT.out, Fr.refl _ _⟩
    case round =>
      obtain ⟨k, hk, rfl, hx, hF⟩ := hrel
      have b0 := cell_of_heap hx 0
      have b1 := cell_of_heap hx 1
      have b2 := cell_of_heap hx 2
      have b3 := cell_of_heap hx 3
      simp at b0 b1 b2 b3
      have z1 : wr.frozen? ⟨w.heap.size, 1, none⟩ = false := frozen_of_row wr _ 1 _ _ hx
      have z0 : wr.frozen? ⟨w.heap.size, 0, none⟩ = false := frozen_of_row wr _ 0 _ _ hx
      have z2 : wr.frozen? ⟨w.heap.size, 2, none⟩ = false := frozen_of_row wr _ 2 _ _ hx
      have z3 : wr.frozen? ⟨w.heap.size, 3, none⟩ = false := frozen_of_row wr _ 3 _ _ hx
      have hnl := bytesNum_lt i k
      have HX := hid hx
      clear hx
      by_cases hlt : k < i.length
      · have hsn := hid (bytesNum_snoc i k hlt)
        have hN56 : bytesNum (i.take k) < 72057594037927936 := by
          have : 256 ^ k ≤ 256 ^ 7 := Nat.pow_le_pow_right (by omega) (by omega)
          have h7 : (256 : Nat) ^ 7 = 72057594037927936 := rfl
          omega
        rcases H4.out with h | ⟨blk2, off2, ha, hbl2, hS2, hc⟩
        · rw [h] at hlt; simp at hlt
        have hcx : wr.cell? ⟨blk2, off2 + k, none⟩ = some (.int .u8 (i[k].toNat : Int)) := (hF.cell (p := ⟨blk2, off2 + k, none⟩) hbl2 (fun e => hS2 (.inr (by have e' : blk2 = w.heap.size := e; omega)))).trans (hc k _ (List.getElem?_eq_getElem hlt))
        have hcu := u8_lt i[k]
        have hor := or_u64 (bytesNum (i.take k)) i[k] hN56
        have hHS := hid (heap_store HX.out 1 (.int .u64 ((bytesNum (i.take k) * 256 + i[k].toNat : Nat) : Int)))
        have hdl : decide ((k : Int) < (i.length : Int)) = true := by simp; omega
        clear hc hnl
        generalize bytesNum (i.take k) = N at *
        generalize i[k].toNat = q at *
        generalize N * 256 + q = N2 at *
        first
          | (injection ha with ha; injection ha with hb1' hb2' _; subst hb1' hb2')
          | subst ha
        go_wp2
        go_roundw
        case rel => first | exact ⟨k + 1, by omega, by go_num, by rw [hsn.out]; exact hHS.out, hF.set1 _ _⟩ | ((repeat apply Exists.intro); refine ⟨?_, rfl⟩; exact ⟨k + 1, by omega, by go_num, by rw [hsn.out]; exact hHS.out, hF.set1 _ _⟩)
        case measure => simp [intOf]; omega
      · obtain rfl : k = i.length := by omega
        rw [List.take_length] at b1 HX
        have hN64 : bytesNum i < 18446744073709551616 := by
          rw [List.take_length] at hnl
          have : 256 ^ i.length ≤ 256 ^ 8 := Nat.pow_le_pow_right (by omega) h8
          have h7 : (256 : Nat) ^ 8 = 18446744073709551616 := rfl
          omega
        have HN := hid hN64
        clear hnl hN64
        generalize bytesNum i = N at *
        go_wp2
        have hx3 := heap_store (heap_store (heap_store (heap_store HX.out 0 (.int .i64 1)) 1 (.int .u64 (N : Int))) 2 (.slice none 0 0)) 3 (.slice none 0 0)
        have hF2 := (((hF.set1 0 (.int .i64 1)).set1 1 (.int .u64 (N : Int))).set1 2 (.slice none 0 0)).set1 3 (.slice none 0 0)
        refine bodyPost_ret (results_ctt rfl _ _ w.heap.size _ _ _ _ rfl hx3 Try.underlying112 rfl (by kernel_rfl)) rfl (RetR.yes (Below.fr HBE.out hF2 (fun i hi e => by omega)) ⟨_, _, _, _, rfl, ?_⟩ (HRT.out.fr hF2 (fun k hk h => .inr (by omega))))
        rw [TVr]
        exact ⟨HN.out, _, _, [], rfl, Bs.nil _ _, ⟨rfl, none, 0, rfl, ⟨Nat.le_refl _, Nat.zero_le _, Nat.zero_le _⟩, fun _ => rfl, .inl rfl⟩, by rw [TVch]⟩
end Go.Proofs.Ytelijfdpgachnaa
