/- How the arguments of the laws over entries lie in memory. -/
import Derived.Test.YtpomfegcifpfkaaJoinsPure
import Derived.Test.YtpomfegcifpfkaaL10Own
import Derived.Outline
namespace Go.Proofs.Ytpomfegcifpfkaa
open Go Go.RowKit Go.Sort
variable {P : Program} {k h : Nat}
/-- An argument, as far as the law looks at it. -/
def Arg (w : World) (a : Option Addr) (n c : Nat) : Prop := n ≤ c ∧ c ≤ maxLen ∧ (n ≤ 60 → ∃ l : List Ent, l.length = n ∧ Es (fun _ => False) w (.slice a n c) l)
/-- A list of entries lies in memory, read so long as no old block is turned. -/
def Lies (w : World) (a : Option Addr) (n c : Nat) (l : List Ent) : Prop := n = l.length ∧ ∀ W, Below w.heap.size w W → Es (fun _ => False) W (.slice a n c) l
theorem Es.lies {w : World} {a : Option Addr} {n c : Nat} {l : List Ent} (hn : l.length = n) (h : Es (fun _ => False) w (.slice a n c) l) : Lies w a n c l := ⟨hn.symm, fun W hb => h.fr (Fr.of_below hb : Fr (fun _ => False) w W) (fun _ _ h => h.elim)⟩
theorem Lies.on {w W : World} {a : Option Addr} {n c : Nat} {l : List Ent} (h : Lies w a n c l) (hb : Below w.heap.size w W) : Lies W a n c l :=
  ⟨h.1, fun W' hb' => h.2 W' (hb.trans (hb'.mono hb.size))⟩
theorem whC_some (e : Ent) : whC (some e) = .agg #[.int .i64 e.pk, .int .i64 e.pos, .int .i64 e.ln] := rfl
theorem whC_ex (o : Option Ent) : ∃ x y z, whC o = .agg #[.int .i64 x, .int .i64 y, .int .i64 z] := by
  cases o with
  | none => exact ⟨0, 0, 0, rfl⟩
  | some e => exact ⟨_, _, _, rfl⟩
/-- What a round reads of the entry in hand. -/
def Reads (P : Program) (k h : Nat) (b off i : Nat) (e : Ent) (W : World) : Prop :=
  Sem.run P (loadCellsFrom ⟨b, off + i * k, none⟩ 0 h #[]) W = .ok (bcells e.nm.1).toArray W ∧ W.cell? ⟨b, off + i * k + 32, none⟩ = some (.int .i64 e.pk) ∧ W.cell? ⟨b, off + i * k + 33, none⟩ = some (.int .i64 e.pos) ∧ W.cell? ⟨b, off + i * k + 34, none⟩ = some (.int .i64 e.ln)
theorem Lies.reads (L : SG P k h) {w : World} {a : Option Addr} {n c : Nat} {l : List Ent} (hl : Lies w a n c l) {i : Nat} {e : Ent} (he : l[i]? = some e) : ∃ b off, a = some ⟨b, off, none⟩ ∧ ∀ W, Below w.heap.size w W → Reads P k h b off i e W := by
  obtain ⟨a', c', hv, _, _, _, _, h4⟩ := (hl.2 w (Below.refl _ _)).cases
  injection hv with e1 e2 e3
  subst e1 e3
  obtain ⟨b, off, rfl, hb, _, hcell⟩ := h4.resolve_left (fun h => by subst h; simp at he)
  refine ⟨b, off, rfl, fun W hbw => ?_⟩
  have hcr : ∀ i e j x, l[i]? = some e → (entC e)[j]? = some x → W.cell? ⟨b, off + i * 35 + j, none⟩ = some x := fun i e j x h1 h2 => (hbw.cell (p := ⟨b, off + i * 35 + j, none⟩) hb).trans (hcell i e j x h1 h2)
  have hE := entC_at e
  unfold Reads
  rw [L.hk, L.hh]
  refine ⟨?_, hcr i e 32 _ he hE.1, hcr i e 33 _ he hE.2.1, hcr i e 34 _ he hE.2.2⟩
  refine run_loadCellsFrom_list P _ _ (bcells e.nm.1) 32 (by rw [bcells_length, e.nm.2]) (fun j v hv => ?_)
  have hadd : (⟨b, off + i * 35, none⟩ : Addr).add j = ⟨b, off + i * 35 + j, none⟩ := by unfold Addr.add; split <;> simp_all
  rw [hadd]
  refine hcr i e j v he ?_
  unfold entC
  rw [List.getElem?_append_left (List.getElem?_eq_some_iff.1 hv).1]; exact hv
theorem three {w W : World} {g t : Nat} {x y z : Value} (hg : w.heap[g]? = some (.cells #[x, y, z] t (0, 0))) (hb : Below w.heap.size w W) : W.cell? ⟨g, 0, none⟩ = some x ∧ W.cell? ⟨g, 1, none⟩ = some y ∧ W.cell? ⟨g, 2, none⟩ = some z := by
  have h : W.heap[g]? = some (.cells #[x, y, z] t (0, 0)) := (hb.block _ (lt_of_heap hg)).trans hg
  exact ⟨cell_of_heap h 0, cell_of_heap h 1, cell_of_heap h 2⟩
end Go.Proofs.Ytpomfegcifpfkaa
