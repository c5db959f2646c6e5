/- SimfsArms: for every number and every list of calls the law of the armed file system answers true, and the list reads as before. No condition. -/
import Derived.Test.YtgehalfnpbjjcaaArmsLaw
import Derived.ProofKit
import Derived.OpenShut
import Derived.Carry
import Derived.ChangeSame
import Derived.Test.YtgehalfnpbjjcaaRows
namespace Go.Proofs.Ytgehalfnpbjjcaa
open Go Go.RowKit Go.Sort Go.ChangeShapes Go.WideShapes Go.ChangeAt
theorem arms_all (w : World) (n : Int) (a : Option Addr) (k c : Nat) (hA : AOps w a k c) : Calls Try.prog 5 #[.int .i64 n, .slice a k c] w fun e w' => e = .returned (.bool true) ∧ Below w.heap.size w w' := by
  by_cases hn : n < 0 ∨ 40 < n
  · exact arms_neg w n a k c hn
  · by_cases hk : 40 < k
    · exact arms_heavy w n a k c (by omega) (by omega) (hid (light_long w a k c 40 hk))
    · obtain ⟨l, rfl, hG, hr⟩ := hA.2.2 (Nat.le_trans (Nat.le_of_not_lt hk) (by decide))
      exact arms_light w n a c l hr hG (by omega) (by omega) (by omega) (hid (light_short w a c l hr 40 (by omega) (by decide)))
theorem ownGoM : ownKnob Try.prog.godebug = none := by kernel_rfl
set_option maxRecDepth 100000 in
theorem arms_lifted (os : Os) (started : os.Started) (H : Type) (enc : TypeId × Value → H) :
    ReturnsInHanded {} Try.checked os 5 .any (Rows.simfsArmsSpec.pre6 enc Try.prog Try.f5 Rows.simfsArmsRow.domain false) (Rows.simfsArmsSpec.post enc Try.prog Try.f5 false true false false) := by
  refine returnsInHanded_of_change (C := Try.checked) ownGoM started (by kernel_rfl) Try.func5
    (ChangeSpec.witness6 (enc := enc) (C := Try.checked) false ⟨#[], #[.int .i64 0, .slice none 0 0], []⟩ 8 (by kernel_rfl) (by kernel_rfl) (by kernel_rfl) (by kernel_rfl)) ?_
  intro W base args ds gs before hval0 hW hcnd _
  have hval : ∀ (j : Nat) t v, Try.f5.params[j]? = some t → args[j]? = some v → Value.okWide Try.prog W .any base t v := hval0
  have hW' := hW
  have hlt := fun p hp => hW.lt (p := p) hp
  obtain ⟨p, q, hA0, hV, rfl, hfz, hnd⟩ := hW
  have hA : DataW.TrodAll enc Try.prog W 0 (fun _ => true) true Try.f5.params.toList args.toList ds p := hA0
  rw [Try.params5] at hA hval
  obtain ⟨v0, vs0, d0, ds0, p0, q0, hargs, rfl, rfl, h0, r0⟩ := trodAll_cons hA
  obtain ⟨v1, vs1, d1, ds1, p1, q1, rfl, rfl, rfl, h1, r1⟩ := trodAll_cons r0
  obtain ⟨rfl, rfl, rfl⟩ := trodAll_nil r1
  obtain rfl : args = #[v0, v1] := by cases args; simp_all
  obtain ⟨rfl, rfl⟩ := trodVars_none hV
  obtain ⟨n, rfl⟩ : ∃ n, v0 = .int .i64 n := by
    obtain ⟨n, e, _⟩ := open_int Try.underlying3 (hval 0 _ v0 rfl rfl) h0
    exact ⟨n, e⟩
  obtain ⟨a, k, c, rfl, x1⟩ := open_ops (hval 1 _ v1 rfl rfl) h1
  clear hA0 hval0
  refine (arms_all W n a k c x1).mono fun e W' ⟨he, hb⟩ => ?_
  subst he
  have hl0 : ∀ x ∈ p0, x.block < W.heap.size := fun x hx => hlt x (by simp [hx])
  have hl1 : ∀ x ∈ p1, x.block < W.heap.size := fun x hx => hlt x (by simp [hx])
  have hlo : laidOutB Try.prog = true := by kernel_rfl
  have t0 := Below.trod hlo (show Try.prog.readableRec 3 = true by kernel_rfl) (by decide +kernel) h0 hb hl0
  have t1 := Below.trod hlo (show Try.prog.readableRec 38 = true by kernel_rfl) (by decide +kernel) h1 hb hl1
  refine ⟨_, rfl, _, _, _, [], p0 ++ (p1 ++ []), [], hW', trodAll_cons_mk (shut_bool Try.underlying4 _) trodAll_mk0, ?_, rfl, World.keptBut_mono (fun p hp => ⟨hp, ?_⟩) (hb.frame (· ∈ _)), fun h => nomatch h⟩
  · exact trodAll_cons_mk t0 (trodAll_cons_mk t1 trodAll_mk0)
  · simp at hp ⊢; exact hp
theorem arms_over : Rows.simfsArmsRow.holds Try.pinned (OpenSpec.ofChange Rows.simfsArmsSpec) :=
  OpenClaim.holds_of_wide 5 Try.f5 rfl rfl rfl rfl rfl rfl rfl ⟨rfl, rfl, rfl, rfl, rfl⟩ rfl rfl rfl rfl rfl (by kernel_rfl) Try.func5 (by kernel_rfl)
    (of_decide_eq_true (by kernel_rfl)) (by unfold Func.isWrapper; first | (rw [if_pos (by decide +kernel)]; kernel_rfl) | (rw [if_neg (by decide +kernel)]; exact ⟨rfl, rfl⟩))
    (fun os started H enc _ => arms_lifted os started H enc)
theorem simfsArms_holds : Rows.SimfsArmsSaid := arms_over
#print axioms simfsArms_holds
end Go.Proofs.Ytgehalfnpbjjcaa
