/- SimfsCopies: for every two lists of calls the law of the copies answers true, and both lists read as before. No condition. -/
import Derived.Test.YtgehalfnpbjjcaaGreatCopiesLaw
import Derived.ProofKit
import Derived.OpenShut
import Derived.Carry
import Derived.ChangeSame
import Derived.Test.YtgehalfnpbjjcaaGreatRows
namespace Go.Proofs.YtgehalfnpbjjcaaGreat
open Go Go.RowKit Go.Sort Go.ChangeShapes Go.WideShapes Go.ChangeAt
theorem ownGoM : ownKnob Tryz.prog.godebug = none := by kernel_rfl
set_option maxRecDepth 100000 in
theorem simfsCopies_lifted (os : Os) (started : os.Started) (H : Type) (enc : TypeId × Value → H) :
    ReturnsInHanded {} Tryz.checked os 3 .any (Rows.simfsCopiesSpec.pre6 enc Tryz.prog Tryz.f3 Rows.simfsCopiesRow.domain false) (Rows.simfsCopiesSpec.post enc Tryz.prog Tryz.f3 false true false false) := by
  refine returnsInHanded_of_change (C := Tryz.checked) ownGoM started (by kernel_rfl) Tryz.func3
    (ChangeSpec.witness6 (enc := enc) (C := Tryz.checked) false ⟨#[], #[.slice none 0 0, .slice none 0 0], []⟩ 8 (by kernel_rfl) (by kernel_rfl) (by kernel_rfl) (by kernel_rfl)) ?_
  intro W base args ds gs before hval0 hW hcnd _
  have hval : ∀ (j : Nat) t v, Tryz.f3.params[j]? = some t → args[j]? = some v → Value.okWide Tryz.prog W .any base t v := hval0
  have hW' := hW
  have hlt := fun p hp => hW.lt (p := p) hp
  obtain ⟨p, q, hA0, hV, rfl, hfz, hnd⟩ := hW
  have hA : DataW.TrodAll enc Tryz.prog W 0 (fun _ => true) true Tryz.f3.params.toList args.toList ds p := hA0
  rw [Tryz.params3] at hA hval
  obtain ⟨v0, vs0, d0, ds0, p0, q0, hargs, rfl, rfl, h0, r0⟩ := trodAll_cons hA
  obtain ⟨v1, vs1, d1, ds1, p1, q1, rfl, rfl, rfl, h1, r1⟩ := trodAll_cons r0
  obtain ⟨rfl, rfl, rfl⟩ := trodAll_nil r1
  obtain rfl : args = #[v0, v1] := by cases args; simp_all
  obtain ⟨rfl, rfl⟩ := trodVars_none hV
  obtain ⟨a0, n0, c0, rfl, x0⟩ := open_ops (hval 0 _ v0 rfl rfl) h0
  obtain ⟨a1, n1, c1, rfl, x1⟩ := open_ops (hval 1 _ v1 rfl rfl) h1
  clear hA0 hval0
  refine (copies_all W a0 n0 c0 a1 n1 c1 x0 x1).mono fun e W' ⟨he, hb⟩ => ?_
  subst he
  have hl0 : ∀ x ∈ p0, x.block < W.heap.size := fun x hx => hlt x (by simp [hx])
  have hl1 : ∀ x ∈ p1, x.block < W.heap.size := fun x hx => hlt x (by simp [hx])
  have hlo : laidOutB Tryz.prog = true := by kernel_rfl
  have t0 := Below.trod hlo (show Tryz.prog.readableRec 22 = true by kernel_rfl) (by decide +kernel) h0 hb hl0
  have t1 := Below.trod hlo (show Tryz.prog.readableRec 22 = true by kernel_rfl) (by decide +kernel) h1 hb hl1
  refine ⟨_, rfl, _, _, _, [], p0 ++ (p1 ++ []), [], hW', trodAll_cons_mk (shut_bool Tryz.underlying4 _) trodAll_mk0, ?_, rfl, World.keptBut_mono (fun p hp => ⟨hp, ?_⟩) (hb.frame (· ∈ _)), fun h => nomatch h⟩
  · exact trodAll_cons_mk t0 (trodAll_cons_mk t1 trodAll_mk0)
  · simp at hp ⊢; exact hp
theorem simfsCopies_over : Rows.simfsCopiesRow.holds Tryz.pinned (OpenSpec.ofChange Rows.simfsCopiesSpec) :=
  OpenClaim.holds_of_wide 3 Tryz.f3 rfl rfl rfl rfl rfl rfl rfl ⟨rfl, rfl, rfl, rfl, rfl⟩ rfl rfl rfl rfl rfl (by kernel_rfl) Tryz.func3 (by kernel_rfl)
    (of_decide_eq_true (by kernel_rfl)) (by unfold Func.isWrapper; first | (rw [if_pos (by decide +kernel)]; kernel_rfl) | (rw [if_neg (by decide +kernel)]; exact ⟨rfl, rfl⟩))
    (fun os started H enc _ => simfsCopies_lifted os started H enc)
theorem simfsCopies_holds : Rows.SimfsCopiesSaid := simfsCopies_over
#print axioms simfsCopies_holds
end Go.Proofs.YtgehalfnpbjjcaaGreat
