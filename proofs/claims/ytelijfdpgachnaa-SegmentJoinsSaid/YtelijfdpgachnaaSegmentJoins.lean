/- SegmentJoins: for every two lists of entries the law returns true, and the lists read afterwards as before. No condition. -/
import Derived.Test.YtelijfdpgachnaaRows
import Derived.Test.YtelijfdpgachnaaJoinsLaw
import Derived.Test.YtelijfdpgachnaaJoinE
import Derived.Test.YtelijfdpgachnaaAlive10
import Derived.Test.YtelijfdpgachnaaOpenE
import Derived.ProofKit
import Derived.OpenShut
import Derived.Carry
import Derived.ChangeSame
namespace Go.Proofs.Ytelijfdpgachnaa
open Go Go.RowKit Go.Sort Go.ChangeShapes Go.WideShapes Go.ChangeAt
theorem jc : JC Try.prog := {
  sort := fun W v l h hl => segSort_ok W v l h (by omega)
  join := fun W v1 v2 l1 l2 h1 h2 hl => segJoin_ok W v1 v2 l1 l2 h1 h2 (by omega)
  alive := alive_ok
  put := segPut_nil
  get := segGet_nil
  e1 := enters_of Try.func9 rfl rfl
  e2 := enters_of Try.func11 rfl rfl
  e3 := enters_of Try.func14 rfl rfl
  tF := Try.underlying27
  aF := Try.isAgg27
  zF := Try.sizeOf27
  gW := by kernel_rfl
  eqW := eq_where }
theorem joins_all (w : World) (a1 a2 : Option Addr) (n1 c1 n2 c2 : Nat) (h1 : Arg w a1 n1 c1) (h2 : Arg w a2 n2 c2) :
    Calls Try.prog 5 #[.slice a1 n1 c1, .slice a2 n2 c2] w fun e w' => e = .returned (.bool true) ∧ Below w.heap.size w w' := by
  by_cases hl : n1 ≤ 60 ∧ n2 ≤ 60
  · exact joins_short sg jc w a1 a2 n1 c1 n2 c2 h1 h2 hl.1 hl.2
  · exact joins_long sg jc w a1 a2 n1 c1 n2 c2 h1 h2 hl
theorem ownGo : ownKnob Try.prog.godebug = none := by kernel_rfl
set_option maxRecDepth 100000 in
theorem joins_lifted (os : Os) (started : os.Started) (H : Type) (enc : TypeId × Value → H) :
    ReturnsInHanded {} Try.checked os 5 .any (Rows.segmentJoinsSpec.pre6 enc Try.prog Try.f5 Rows.segmentJoinsRow.domain false) (Rows.segmentJoinsSpec.post enc Try.prog Try.f5 false true false false) := by
  refine returnsInHanded_of_change (C := Try.checked) ownGo started (by kernel_rfl) Try.func5
    (ChangeSpec.witness6 (enc := enc) (C := Try.checked) false ⟨#[], #[.slice none 0 0, .slice none 0 0], []⟩ 8 (by kernel_rfl) (by kernel_rfl) (by kernel_rfl) (by kernel_rfl)) ?_
  intro W base args ds gs before hval0 hW hcnd _
  have hval : ∀ (j : Nat) t v, Try.f5.params[j]? = some t → args[j]? = some v → Value.okWide Try.prog W .any base t v := hval0
  have hW' := hW
  have hlt := fun p hp => hW.lt (p := p) hp
  obtain ⟨p, q, hA0, hV, rfl, hfz, hnd⟩ := hW
  have hA : DataW.TrodAll enc Try.prog W 0 (fun _ => true) true Try.f5.params.toList args.toList ds p := hA0
  rw [Try.params5] at hA hval
  obtain ⟨v0, vs0, d0, ds0, p0, q0, hargs, rfl, rfl, h0, r0⟩ := trodAll_cons hA
  obtain ⟨v1, vs1, d1, ds1, p1, q1, rfl, rfl, rfl, h1, r1⟩ := trodAll_cons r0
  obtain ⟨rfl, rfl, rfl⟩ := trodAll_nil r1
  obtain rfl : args = #[v0, v1] := by cases args; simp_all
  obtain ⟨rfl, rfl⟩ := trodVars_none hV
  obtain ⟨a, n, c, rfl, x1, x2, x3⟩ := open_ents (hval 0 _ v0 rfl rfl) h0
  obtain ⟨a', n', c', rfl, y1, y2, y3⟩ := open_ents (hval 1 _ v1 rfl rfl) h1
  clear hA0 hval0
  refine (joins_all W a a' n c n' c' ⟨x1, x2, fun h => x3 (by omega)⟩ ⟨y1, y2, fun h => y3 (by omega)⟩).mono fun e W' ⟨he, hb⟩ => ?_
  subst he
  have hl0 : ∀ x ∈ p0, x.block < W.heap.size := fun x hx => hlt x (by simp [hx])
  have hl1 : ∀ x ∈ p1, x.block < W.heap.size := fun x hx => hlt x (by simp [hx])
  have hlo : laidOutB Try.prog = true := by kernel_rfl
  have hre : Try.prog.readableRec 22 = true := by kernel_rfl
  have hro : 22 < Try.prog.types.size := by decide +kernel
  have t0 := Below.trod hlo hre hro h0 hb hl0
  have t1 := Below.trod hlo hre hro h1 hb hl1
  refine ⟨_, rfl, _, _, _, [], p0 ++ (p1 ++ []), [], hW', trodAll_cons_mk (shut_bool Try.underlying4 _) trodAll_mk0, ?_, rfl, World.keptBut_mono (fun p hp => ⟨hp, ?_⟩) (hb.frame (· ∈ _)), fun h => nomatch h⟩
  · exact trodAll_cons_mk t0 (trodAll_cons_mk t1 trodAll_mk0)
  · simp at hp ⊢; exact hp
theorem joins_over : Rows.segmentJoinsRow.holds Try.pinned (OpenSpec.ofChange Rows.segmentJoinsSpec) :=
  OpenClaim.holds_of_wide 5 Try.f5 rfl rfl rfl rfl rfl rfl rfl ⟨rfl, rfl, rfl, rfl, rfl⟩ rfl rfl rfl rfl rfl (by kernel_rfl) Try.func5 (by kernel_rfl)
    (of_decide_eq_true (by kernel_rfl)) (by unfold Func.isWrapper; first | (rw [if_pos (by decide +kernel)]; kernel_rfl) | (rw [if_neg (by decide +kernel)]; exact ⟨rfl, rfl⟩))
    (fun os started H enc _ => joins_lifted os started H enc)
theorem segmentJoins_holds : Rows.SegmentJoinsSaid := joins_over
#print axioms segmentJoins_holds
end Go.Proofs.Ytelijfdpgachnaa
