/- SegmentForms: for every list of entries and all bytes the law returns true, and the arguments read afterwards as before. No condition. -/
import Derived.Test.YtpomfegcifpfkaaRows
import Derived.Test.YtpomfegcifpfkaaFormsLaw
import Derived.Test.YtpomfegcifpfkaaEqREnt
import Derived.Test.YtpomfegcifpfkaaAlive10
import Derived.Test.YtpomfegcifpfkaaOpenB
import Derived.ProofKit
import Derived.OpenShut
import Derived.Carry
import Derived.ChangeSame
namespace Go.Proofs.Ytpomfegcifpfkaa
open Go Go.RowKit Go.Sort Go.ChangeShapes Go.WideShapes Go.ChangeAt
theorem bc : BC Try.prog := {
  ER := ⟨Try.underlying22, by kernel_rfl, by kernel_rfl, by decide, by decide⟩
  gR := by kernel_rfl
  eR := eq_rent
  new := new_ok
  bytes := fun W v v' xs h h' => (refBytes_ok v v' xs xs W h h').mono fun e w' ⟨h1, h2⟩ => ⟨by rw [h1]; simp, h2⟩
  sort := fun W v l h hl => segSort_ok W v l h (by omega)
  alive := alive_ok
  u_tFault := Try.underlying27
  r_tFault := fun w => run_underlying Try.underlying27 w
  a_tFault := Try.isAgg27
  z_tFault := Try.sizeOf27
  v_tFault := Try.zeroValue27
  u_tPtrTab := Try.underlying25
  r_tPtrTab := fun w => run_underlying Try.underlying25 w
  a_tPtrTab := Try.isAgg25
  z_tPtrTab := Try.sizeOf25
  v_tPtrTab := Try.zeroValue25
  u_tBytesFault := Try.underlying28
  r_tBytesFault := fun w => run_underlying Try.underlying28 w
  a_tBytesFault := Try.isAgg28
  z_tBytesFault := Try.sizeOf28
  v_tBytesFault := Try.zeroValue28
  u_tEntsFault := Try.underlying33
  r_tEntsFault := fun w => run_underlying Try.underlying33 w
  a_tEntsFault := Try.isAgg33
  z_tEntsFault := Try.sizeOf33
  v_tEntsFault := Try.zeroValue33
  u_tREnts := Try.underlying22
  r_tREnts := fun w => run_underlying Try.underlying22 w
  a_tREnts := Try.isAgg22
  z_tREnts := Try.sizeOf22
  v_tREnts := Try.zeroValue22
  f_crcNew := Try.func5
  f_refBytes := Try.func17
  f_l10alive := Try.func4
  f_segPut := Try.func6
  f_segGet := Try.func9
  }
theorem forms_all (w : World) (a1 a2 : Option Addr) (n1 c1 n2 c2 : Nat) (h1 : Arg w a1 n1 c1) (h2 : ArgB w a2 n2 c2) :
    Calls Try.prog 3 #[.slice a1 n1 c1, .slice a2 n2 c2] w fun e w' => e = .returned (.bool true) ∧ Below w.heap.size w w' := by
  by_cases hl : n1 ≤ 60 ∧ n2 ≤ 2000
  · exact forms_short sg sk so sr rk rg bc fmc w a1 a2 n1 c1 n2 c2 h1 h2 hl.1 hl.2
  · exact forms_long sg bc fmc w a1 a2 n1 c1 n2 c2 h1 h2 hl
theorem ownGoM : ownKnob Try.prog.godebug = none := by kernel_rfl
set_option maxRecDepth 100000 in
theorem forms_lifted (os : Os) (started : os.Started) (H : Type) (enc : TypeId × Value → H) :
    ReturnsInHanded {} Try.checked os 3 .any (Rows.segmentFormsSpec.pre6 enc Try.prog Try.f3 Rows.segmentFormsRow.domain false) (Rows.segmentFormsSpec.post enc Try.prog Try.f3 false true false false) := by
  refine returnsInHanded_of_change (C := Try.checked) ownGoM started (by kernel_rfl) Try.func3
    (ChangeSpec.witness6 (enc := enc) (C := Try.checked) false ⟨#[], #[.slice none 0 0, .slice none 0 0], []⟩ 8 (by kernel_rfl) (by kernel_rfl) (by kernel_rfl) (by kernel_rfl)) ?_
  intro W base args ds gs before hval0 hW hcnd _
  have hval : ∀ (j : Nat) t v, Try.f3.params[j]? = some t → args[j]? = some v → Value.okWide Try.prog W .any base t v := hval0
  have hW' := hW
  have hlt := fun p hp => hW.lt (p := p) hp
  obtain ⟨p, q, hA0, hV, rfl, hfz, hnd⟩ := hW
  have hA : DataW.TrodAll enc Try.prog W 0 (fun _ => true) true Try.f3.params.toList args.toList ds p := hA0
  rw [Try.params3] at hA hval
  obtain ⟨v0, vs0, d0, ds0, p0, q0, hargs, rfl, rfl, h0, r0⟩ := trodAll_cons hA
  obtain ⟨v1, vs1, d1, ds1, p1, q1, rfl, rfl, rfl, h1, r1⟩ := trodAll_cons r0
  obtain ⟨rfl, rfl, rfl⟩ := trodAll_nil r1
  obtain rfl : args = #[v0, v1] := by cases args; simp_all
  obtain ⟨rfl, rfl⟩ := trodVars_none hV
  obtain ⟨a, n, c, rfl, x1, x2, x3⟩ := open_ents (hval 0 _ v0 rfl rfl) h0
  obtain ⟨a', n', c', rfl, y1, y2, y3⟩ := open_bs (hval 1 _ v1 rfl rfl) h1
  clear hA0 hval0
  refine (forms_all W a a' n c n' c' ⟨x1, x2, fun h => x3 (by omega)⟩ ⟨y1, y2, fun h => y3 (by omega)⟩).mono fun e W' ⟨he, hb⟩ => ?_
  subst he
  have hl0 : ∀ x ∈ p0, x.block < W.heap.size := fun x hx => hlt x (by simp [hx])
  have hl1 : ∀ x ∈ p1, x.block < W.heap.size := fun x hx => hlt x (by simp [hx])
  have hlo : laidOutB Try.prog = true := by kernel_rfl
  have t0 := Below.trod hlo (show Try.prog.readableRec 22 = true by kernel_rfl) (by decide +kernel) h0 hb hl0
  have t1 := Below.trod hlo (show Try.prog.readableRec 23 = true by kernel_rfl) (by decide +kernel) h1 hb hl1
  refine ⟨_, rfl, _, _, _, [], p0 ++ (p1 ++ []), [], hW', trodAll_cons_mk (shut_bool Try.underlying4 _) trodAll_mk0, ?_, rfl, World.keptBut_mono (fun p hp => ⟨hp, ?_⟩) (hb.frame (· ∈ _)), fun h => nomatch h⟩
  · exact trodAll_cons_mk t0 (trodAll_cons_mk t1 trodAll_mk0)
  · simp at hp ⊢; exact hp
theorem forms_over : Rows.segmentFormsRow.holds Try.pinned (OpenSpec.ofChange Rows.segmentFormsSpec) :=
  OpenClaim.holds_of_wide 3 Try.f3 rfl rfl rfl rfl rfl rfl rfl ⟨rfl, rfl, rfl, rfl, rfl⟩ rfl rfl rfl rfl rfl (by kernel_rfl) Try.func3 (by kernel_rfl)
    (of_decide_eq_true (by kernel_rfl)) (by unfold Func.isWrapper; first | (rw [if_pos (by decide +kernel)]; kernel_rfl) | (rw [if_neg (by decide +kernel)]; exact ⟨rfl, rfl⟩))
    (fun os started H enc _ => forms_lifted os started H enc)
theorem segmentForms_holds : Rows.SegmentFormsSaid := forms_over
#print axioms segmentForms_holds
end Go.Proofs.Ytpomfegcifpfkaa
