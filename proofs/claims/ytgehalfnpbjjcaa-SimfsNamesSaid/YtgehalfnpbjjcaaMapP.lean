/- Maps whose keys are pointers to the first cell of a block. -/
import Derived.Test.YtgehalfnpbjjcaaMapG2
import Derived.LaidEqlPtr
namespace Go.Proofs.Ytgehalfnpbjjcaa
open Go Go.RowKit
def ekP (p : Nat) : Value := .pointer (some ⟨p, 0, none⟩)
theorem ekP_inj {a b : Nat} (h : ekP a = ekP b) : a = b := by
  unfold ekP at h
  injection h with h
  injection h with h
  injection h with h _ _
theorem findAsk_p {P : Program} {tk : TypeId} {good : World → Nat → Prop} {w : World} (heq : ∀ (a b : Nat), good w a → good w b → (Op.equal tk (ekP a) (ekP b)).run P w = .ok (decide (a = b)) w) {a : Nat} (ha : good w a) : ∀ (es : List MapEntry) (i : Nat), (∀ e ∈ es, ∃ b, e.key = ekP b ∧ good w b) →
    (∃ j e, es[j]? = some e ∧ e.key = ekP a ∧ (Instr.findAsking tk (ekP a) es i).run P w = .ok (some (i + j, e.val)) w) ∨ ((∀ e ∈ es, e.key ≠ ekP a) ∧ (Instr.findAsking tk (ekP a) es i).run P w = .ok none w)
  | [], i, _ => .inr ⟨fun _ h => by simp at h, rfl⟩
  | e :: es, i, h => by
    obtain ⟨b, hb, hgb⟩ := h e (by simp)
    have heqb := heq a b ha hgb
    by_cases hab : a = b
    · subst hab
      exact .inl ⟨0, e, rfl, hb, by simp [Instr.findAsking, hb, Sem.run_bind, heqb, Result.andThen_ok, Sem.run_pure]⟩
    · rcases findAsk_p heq ha es (i + 1) (fun x hx => h x (by simp [hx])) with ⟨j, x, h1, h2, h3⟩ | ⟨h1, h2⟩
      · exact .inl ⟨j + 1, x, by simpa using h1, h2, by simp only [Instr.findAsking, hb, Sem.run_bind, heqb, hab, Result.andThen_ok, decide_false, Bool.false_eq_true, if_false, h3]; congr 3; omega⟩
      · refine .inr ⟨fun x hx => ?_, by simp [Instr.findAsking, hb, Sem.run_bind, heqb, hab, Result.andThen_ok, h2]⟩
        rcases List.mem_cons.1 hx with rfl | hx
        · rw [hb]; exact fun e => hab (ekP_inj e).symm
        · exact h1 x hx
/-- Block p is a row of cells. -/
def RowAt (w : World) (p : Nat) : Prop := ∃ cs t, w.heap[p]? = some (.cells cs t (0, 0))
theorem RowAt.fr {w w' : World} {p : Nat} (h : RowAt w p) {S : Nat → Prop} (hf : Fr S w w') (hs : ¬ S p) : RowAt w' p := by
  obtain ⟨cs, t, h⟩ := h
  exact ⟨cs, t, hf.heap h hs⟩
theorem eq_p {P : Program} {tk e : TypeId} {j : TypeInfo} (hp : P.underlying tk = some (.pointer e)) (hte : P.info? e = some j) (hsz : j.size ≠ 0) {w : World} (a b : Nat) (ha : RowAt w a) (hb : RowAt w b) :
    (Op.equal tk (ekP a) (ekP b)).run P w = .ok (decide (a = b)) w := by
  obtain ⟨ca, ta, ha⟩ := ha
  obtain ⟨cb, tb, hb⟩ := hb
  unfold ekP
  by_cases hab : a = b
  · subst hab
    have h : ∀ d : Nat, (Op.equalIn (d + 1) tk (.pointer (some ⟨a, 0, none⟩)) (.pointer (some ⟨a, 0, none⟩))).run P w = .ok true w := fun d => by
      simp [Op.equalIn, run_underlying hp, sizeOf, typeInfo, hte, run_sameAddr_same]
    simp [Op.equal, Op.maxDepth, h 9999]
  · have hne : (⟨a, 0, none⟩ : Addr) ≠ ⟨b, 0, none⟩ := fun e => hab (by injection e)
    have h : ∀ d : Nat, (Op.equalIn (d + 1) tk (.pointer (some ⟨a, 0, none⟩)) (.pointer (some ⟨b, 0, none⟩))).run P w = .ok false w := fun d => by
      simp [Op.equalIn, run_underlying hp, sizeOf, typeInfo, hte, hsz, run_sameAddr_other w hne ha hb]
    simp [Op.equal, Op.maxDepth, h 9999, hab]
theorem keyP {P : Program} {tk e : TypeId} {j : TypeInfo} (hp : P.underlying tk = some (.pointer e)) (hte : P.info? e = some j) (hsz : j.size ≠ 0) : KeyG P tk ekP RowAt where
  inj := ekP_inj
  check := fun b a w => by
    have r_tk := fun w => run_underlying hp w
    have h : ∀ n, (Instr.checkKey b (n + 1) tk (ekP a)).run P w = .ok () w := fun n => by simp [Instr.checkKey, ekP, Sem.run_bind, r_tk, Result.andThen_ok, Sem.run_pure]
    exact h 9999
  find := fun a w es ha he => by
    have r_tk := fun w => run_underlying hp w
    cases es with
    | nil => exact .inr ⟨fun _ h => by simp at h, by simp [Instr.findKey, Instr.findNow, r_tk, Result.andThen_ok]⟩
    | cons x es =>
      obtain ⟨b, hb, _⟩ := he x (by simp)
      have hn : Instr.findNow (.pointer e) (ekP a) (x :: es) 0 = none := by simp [Instr.findNow, Instr.sameNow]
      have hf : (Instr.findKey tk (ekP a) (x :: es)).run P w = (Instr.findAsking tk (ekP a) (x :: es) 0).run P w := by simp [Instr.findKey, Sem.run_bind, r_tk, Result.andThen_ok, hn]
      rw [hf]
      rcases findAsk_p (good := RowAt) (fun a b ha hb => eq_p hp hte hsz a b ha hb) ha (x :: es) 0 he with ⟨j, y, h1, h2, h3⟩ | h
      · exact .inl ⟨j, y, h1, h2, by rw [h3, Nat.zero_add]⟩
      · exact .inr h
  same := fun a => by
    show Instr.sameBits 10000 (.pointer (some ⟨a, 0, none⟩)) (.pointer (some ⟨a, 0, none⟩)) = true
    unfold Instr.sameBits
    exact beq_self_eq_true _
end Go.Proofs.Ytgehalfnpbjjcaa
