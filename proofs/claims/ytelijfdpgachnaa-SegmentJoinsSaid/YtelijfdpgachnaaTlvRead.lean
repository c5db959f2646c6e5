/- tlv's read: the value that bytes begin with. -/
import Derived.Test.YtelijfdpgachnaaTlvSplit
namespace Go.Proofs.Ytelijfdpgachnaa
open Go Go.RowKit
/-- Blocks of S are old. -/
def SB (S : Nat → Prop) (w : World) : Prop := ∀ k, S k → k < w.heap.size
theorem SB.ok {S : Nat → Prop} {w w' : World} (h : SB S w) : Sok S w w' := fun k hk _ hs => by have := h k hs; omega
theorem SB.later {S : Nat → Prop} {w w' : World} (h : SB S w) (hl : w.heap.size ≤ w'.heap.size) : SB S w' := fun k hk => Nat.lt_of_lt_of_le (h k hk) hl
/-- S, and all that is new. -/
def SN (S : Nat → Prop) (w : World) (k : Nat) : Prop := S k ∨ w.heap.size ≤ k
/-- What read answers. -/
def RetR (S : Nat → Prop) (w : World) (r : Option (TV × List UInt8)) (e : Ending) (w' : World) : Prop :=
  Below w.heap.size w w' ∧ match r with
  | none => e = .returned (.tuple #[.agg #[.int .i64 0, .int .u64 0, .slice none 0 0, .slice none 0 0], .slice none 0 0, .bool false])
  | some (v, r) => ∃ x ar cr, e = .returned (.tuple #[x, .slice ar r.length cr, .bool true]) ∧ TVv S w' v x ∧ Bs (SN S w) w' (.slice ar r.length cr) r
theorem RetR.no {S : Nat → Prop} {w w' : World} (h : Below w.heap.size w w') : RetR S w none (.returned (.tuple #[.agg #[.int .i64 0, .int .u64 0, .slice none 0 0, .slice none 0 0], .slice none 0 0, .bool false])) w' := ⟨h, rfl⟩
theorem RetR.yes {S : Nat → Prop} {w w' : World} {v : TV} {x : Value} {r : List UInt8} {ar : Option Addr} {cr : Nat} (h : Below w.heap.size w w') (h1 : TVv S w' v x) (h2 : Bs (SN S w) w' (.slice ar r.length cr) r) :
    RetR S w (some (v, r)) (.returned (.tuple #[x, .slice ar r.length cr, .bool true])) w' := ⟨h, _, _, _, rfl, h1, h2⟩
set_option maxRecDepth 100000 in
set_option maxHeartbeats 1000000 in
theorem read_short {S : Nat → Prop} (d : Nat) (b : Value) (xs : List UInt8) (w : World) (hb : Bs S w b xs) (hsp : splitF xs = none) :
    Calls Try.prog 115 #[b, .int .i64 (d : Int)] w (RetR S w none) := by
  have HS := hid (show ∀ w', Bs S w' b xs → Calls Try.prog 141 #[b] w' (RetS S w' none) from fun w' h => hsp ▸ split_ok b xs w' h)
  have HB := hid hb
  clear hb hsp
  go_enter Try.func115, Try.ntmps115
  go_wp2_with (go_at_call 141; refine (HS.out _ (HB.out.fr ((Fr.refl (fun _ => False) w).alloc _) (fun _ _ h => h.elim))).mono ?_; rintro e w1 ⟨hb1, rfl⟩; obtain ⟨hc1, hf1⟩ := wold hb1; have hsz1 : w.heap.size < w1.heap.size := (by have := hb1.size; simp at this; omega))
  have hB : Below w.heap.size w w1 := ((Below.refl _ _).alloc (Nat.le_refl _) _).trans (hb1.mono (by simp))
  refine bodyPost_ret (v := .tuple #[.agg #[.int .i64 0, .int .u64 0, .slice none 0 0, .slice none 0 0], .slice none 0 0, .bool false]) (by simp [results, Try.results115, go_sem, hc1]) rfl (RetR.no ?_)
  exact (((hB.setCell (Nat.le_refl _) _).setCell (Nat.le_refl _) _).setCell (Nat.le_refl _) _).setCell (Nat.le_refl _) _
section
variable {P : Program}
/-- Three results, the first one a struct in memory. -/
theorem results_ctt {fn : Func} {p u v : Tmp} {ty : TypeId} (h : fn.results = #[.cell p ty, .tmp u, .tmp v]) (tmps : Array Value) (w : World) (g : Nat) (t : TypeId) (cs : Array Value) (fr : Nat × Nat) (d : TypeDesc)
    (hp : tmps.getD p undef = .pointer (some ⟨g, 0, none⟩)) (hg : w.heap[g]? = some (.cells cs t fr))
    (hu : P.underlying ty = some d) (hd : (match d with | .struct _ | .array _ _ => true | _ => false) = true) (hi : (P.info? ty).map (·.size) = some cs.size) :
    (results fn tmps).run P w = .ok (.tuple #[.agg cs, tmps.getD u undef, tmps.getD v undef]) w := by
  have hp' : tmps[p]?.getD undef = .pointer (some ⟨g, 0, none⟩) := by simpa using hp
  simp [results, h, hp', asAddr, run_loadVar_row w g t ty cs fr d hg hu hd hi]
/-- Two results, the first one a struct in memory. -/
theorem results_ct {fn : Func} {p u : Tmp} {ty : TypeId} (h : fn.results = #[.cell p ty, .tmp u]) (tmps : Array Value) (w : World) (g : Nat) (t : TypeId) (cs : Array Value) (fr : Nat × Nat) (d : TypeDesc)
    (hp : tmps.getD p undef = .pointer (some ⟨g, 0, none⟩)) (hg : w.heap[g]? = some (.cells cs t fr))
    (hu : P.underlying ty = some d) (hd : (match d with | .struct _ | .array _ _ => true | _ => false) = true) (hi : (P.info? ty).map (·.size) = some cs.size) :
    (results fn tmps).run P w = .ok (.tuple #[.agg cs, tmps.getD u undef]) w := by
  have hp' : tmps[p]?.getD undef = .pointer (some ⟨g, 0, none⟩) := by simpa using hp
  simp [results, h, hp', asAddr, run_loadVar_row w g t ty cs fr d hg hu hd hi]
end
theorem Bs.new {S S0 : Nat → Prop} {w w' : World} {v : Value} {xs : List UInt8} (h : Bs S w v xs) (hf : Fr S0 w w') (h0 : ∀ k, k < w.heap.size → S0 k → S k) : Bs (SN S w) w' v xs :=
  h.shift hf h0 (fun k hk hs => hs.elim id (fun hl => absurd hk (by omega)))
theorem Bs.old {S : Nat → Prop} {w w' : World} {v : Value} {xs : List UInt8} (h : Bs (SN S w) w' v xs) : Bs S w' v xs := h.mono (fun _ _ hs => .inl hs)
set_option maxRecDepth 100000 in
set_option maxHeartbeats 1000000 in
theorem read_bytes {S : Nat → Prop} (d : Nat) (b : Value) (xs : List UInt8) (w : World) (hb : Bs S w b xs) (hSB : SB S w) (t : UInt8) (i r : List UInt8) (hsp : splitF xs = some (t, i, r)) (ht : t.toNat = 2) :
    Calls Try.prog 115 #[b, .int .i64 (d : Int)] w (RetR S w (some (.mk 2 0 i [], r))) := by
  have HS := hid (show ∀ w', Bs (SN S w) w' b xs → Calls Try.prog 141 #[b] w' (RetS (SN S w) w' (some (t, i, r))) from fun w' h => hsp ▸ split_ok b xs w' h)
  have HB := hid hb
  have ht' : (t.toNat : Int) = 2 := by omega
  clear hb hsp ht
  go_enter Try.func115, Try.ntmps115
  go_wp2_with (first | (go_at_call 141; refine (HS.out _ (HB.out.new ((Fr.refl (fun _ => False) w).alloc _) (fun _ _ h => h.elim))).mono ?_; rintro e w1 ⟨hb1, ai, ci, ar, cr, rfl, hbi, hbr⟩; obtain ⟨hc1, hf1⟩ := wold hb1; have hsz1 : w.heap.size < w1.heap.size := (by have := hb1.size; simp at this; omega)) | (go_at_call 111; refine (cloneB_ok (S := SN S w) _ i _ (hbi.fr ((Fr.refl (· = w.heap.size) w1).set1 _ _) (fun k hk h => .inr (by omega)))).mono ?_; rintro e w2 ⟨v2, rfl, ho2, hb2⟩; obtain ⟨a2, c2, rfl, _⟩ := ho2.len; obtain ⟨hc2, hf2⟩ := wold hb2; have hsz2 : w.heap.size < w2.heap.size := (by have := hb2.size; simp [World.setCell] at this; omega)))
  have hB : Below w.heap.size w w1 := ((Below.refl _ _).alloc (Nat.le_refl _) _).trans (hb1.mono (by simp))
  have hB2 : Below w.heap.size w w2 := (hB.setCell (p := ⟨w.heap.size, 0, none⟩) (Nat.le_refl _) _).trans (hb2.mono (by have := hB.size; simp [World.setCell]; omega))
  have hx1 : w1.heap[w.heap.size]? = some (.cells #[.int .i64 0, .int .u64 0, .slice none 0 0, .slice none 0 0] 112 (0, 0)) := by
    rw [hb1.block _ (by simp)]; exact heap_alloc_new w _
  have hx2 : w2.heap[w.heap.size]? = some (.cells #[.int .i64 2, .int .u64 0, .slice none 0 0, .slice none 0 0] 112 (0, 0)) := by
    rw [hb2.block _ (by simp [World.setCell]; omega)]; exact heap_store hx1 0 _
  have hx3 := heap_store (heap_store (heap_store (heap_store (heap_store hx2 2 (.slice a2 i.length c2)) 0 (.int .i64 2)) 1 (.int .u64 0)) 2 (.slice a2 i.length c2)) 3 (.slice none 0 0)
  have hF : Fr (· = w.heap.size) w2 (((((w2.setCell ⟨w.heap.size, 2, none⟩ (.slice a2 i.length c2)).setCell ⟨w.heap.size, 0, none⟩ (.int .i64 2)).setCell ⟨w.heap.size, 1, none⟩ (.int .u64 0)).setCell ⟨w.heap.size, 2, none⟩ (.slice a2 i.length c2)).setCell ⟨w.heap.size, 3, none⟩ (.slice none 0 0)) :=
    (((((Fr.refl (· = w.heap.size) w2).set1 _ _).set1 _ _).set1 _ _).set1 _ _).set1 _ _
  have hB3 : Below w.heap.size w (((((w2.setCell ⟨w.heap.size, 2, none⟩ (.slice a2 i.length c2)).setCell ⟨w.heap.size, 0, none⟩ (.int .i64 2)).setCell ⟨w.heap.size, 1, none⟩ (.int .u64 0)).setCell ⟨w.heap.size, 2, none⟩ (.slice a2 i.length c2)).setCell ⟨w.heap.size, 3, none⟩ (.slice none 0 0)) := Below.fr hB2 hF (fun i hi e => by omega)
  have ho3 : OwnB _ _ _ _ := Own.fr ho2 hF (fun k hk he => by have := (Own.mine_ge ho2 hk).1; simp [World.setCell] at this; omega)
  have hr3 := ((hbr.fr ((Fr.refl (· = w.heap.size) w1).set1 0 (.int .i64 2)) (fun k hk h => .inr (by omega))).fr (Fr.of_below (S := fun _ => False) hb2) (fun _ _ h => h.elim)).fr hF (fun k hk h => .inr (by omega))
  refine bodyPost_ret (results_ctt rfl _ _ w.heap.size _ _ _ _ rfl hx3 Try.underlying112 rfl (by kernel_rfl)) rfl (RetR.yes hB3 ⟨_, _, _, _, rfl, ?_⟩ hr3)
  rw [TVr]
  exact ⟨by omega, _, _, [], rfl, ho3.bs (fun k hk _ hs => by have := hSB k hs; simp [World.setCell] at hk; omega), ⟨rfl, none, 0, rfl, ⟨Nat.le_refl _, Nat.zero_le _, Nat.zero_le _⟩, fun _ => rfl, .inl rfl⟩, by rw [TVch]⟩
end Go.Proofs.Ytelijfdpgachnaa
