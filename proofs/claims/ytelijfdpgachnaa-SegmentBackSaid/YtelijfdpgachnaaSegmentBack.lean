/- SegmentBack: for every list of entries, all bytes, every place and every byte the law returns true, and the arguments read afterwards as before. No condition. -/
import Derived.Test.YtelijfdpgachnaaRows
import Derived.Test.YtelijfdpgachnaaBackLaw
import Derived.Test.YtelijfdpgachnaaEqREnt
import Derived.Test.YtelijfdpgachnaaAlive10
import Derived.Test.YtelijfdpgachnaaOpenB
import Derived.ProofKit
import Derived.OpenShut
import Derived.Carry
import Derived.ChangeSame
namespace Go.Proofs.Ytelijfdpgachnaa
open Go Go.RowKit Go.Sort Go.ChangeShapes Go.WideShapes Go.ChangeAt
theorem bc : BC Try.prog := {
  ER := ⟨Try.underlying22, by kernel_rfl, by kernel_rfl, by decide, by decide⟩
  gR := by kernel_rfl
  eR := eq_rent
  new := new_ok
  bytes := fun W v v' xs h h' => (refBytes_ok v v' xs xs W h h').mono fun e w' ⟨h1, h2⟩ => ⟨by rw [h1]; simp, h2⟩
  sort := fun W v l h hl => segSort_ok W v l h (by omega)
  alive := alive_ok
  u_tFault := Try.underlying27
  r_tFault := fun w => run_underlying Try.underlying27 w
  a_tFault := Try.isAgg27
  z_tFault := Try.sizeOf27
  v_tFault := Try.zeroValue27
  u_tPtrTab := Try.underlying25
  r_tPtrTab := fun w => run_underlying Try.underlying25 w
  a_tPtrTab := Try.isAgg25
  z_tPtrTab := Try.sizeOf25
  v_tPtrTab := Try.zeroValue25
  u_tBytesFault := Try.underlying28
  r_tBytesFault := fun w => run_underlying Try.underlying28 w
  a_tBytesFault := Try.isAgg28
  z_tBytesFault := Try.sizeOf28
  v_tBytesFault := Try.zeroValue28
  u_tEntsFault := Try.underlying33
  r_tEntsFault := fun w => run_underlying Try.underlying33 w
  a_tEntsFault := Try.isAgg33
  z_tEntsFault := Try.sizeOf33
  v_tEntsFault := Try.zeroValue33
  u_tREnts := Try.underlying22
  r_tREnts := fun w => run_underlying Try.underlying22 w
  a_tREnts := Try.isAgg22
  z_tREnts := Try.sizeOf22
  v_tREnts := Try.zeroValue22
  f_crcNew := Try.func10
  f_refBytes := Try.func22
  f_l10alive := Try.func9
  f_segBack := Try.func4
  f_segPut := Try.func11
  f_segGet := Try.func14
  }
theorem back_all (w : World) (a1 a2 : Option Addr) (n1 c1 n2 c2 : Nat) (at_ : Int) (by_ : UInt8) (h1 : Arg w a1 n1 c1) (h2 : ArgB w a2 n2 c2) :
    Calls Try.prog 4 #[.slice a1 n1 c1, .slice a2 n2 c2, .int .i64 at_, .int .u8 (by_.toNat : Int)] w fun e w' => e = .returned (.bool true) ∧ Below w.heap.size w w' := by
  by_cases hl : n1 ≤ 60 ∧ n2 ≤ 2000
  · exact back_short sg sk so bc w a1 a2 n1 c1 n2 c2 at_ by_ h1 h2 hl.1 hl.2
  · exact back_long sg bc w a1 a2 n1 c1 n2 c2 at_ by_ h1 h2 hl
theorem ownGoB : ownKnob Try.prog.godebug = none := by kernel_rfl
set_option maxRecDepth 100000 in
theorem back_lifted (os : Os) (started : os.Started) (H : Type) (enc : TypeId × Value → H) :
    ReturnsInHanded {} Try.checked os 4 .any (Rows.segmentBackSpec.pre6 enc Try.prog Try.f4 Rows.segmentBackRow.domain false) (Rows.segmentBackSpec.post enc Try.prog Try.f4 false true false false) := by
  refine returnsInHanded_of_change (C := Try.checked) ownGoB started (by kernel_rfl) Try.func4
    (ChangeSpec.witness6 (enc := enc) (C := Try.checked) false ⟨#[], #[.slice none 0 0, .slice none 0 0, .int .i64 0, .int .u8 0], []⟩ 8 (by kernel_rfl) (by kernel_rfl) (by kernel_rfl) (by kernel_rfl)) ?_
  intro W base args ds gs before hval0 hW hcnd _
  have hval : ∀ (j : Nat) t v, Try.f4.params[j]? = some t → args[j]? = some v → Value.okWide Try.prog W .any base t v := hval0
  have hW' := hW
  have hlt := fun p hp => hW.lt (p := p) hp
  obtain ⟨p, q, hA0, hV, rfl, hfz, hnd⟩ := hW
  have hA : DataW.TrodAll enc Try.prog W 0 (fun _ => true) true Try.f4.params.toList args.toList ds p := hA0
  rw [Try.params4] at hA hval
  obtain ⟨v0, vs0, d0, ds0, p0, q0, hargs, rfl, rfl, h0, r0⟩ := trodAll_cons hA
  obtain ⟨v1, vs1, d1, ds1, p1, q1, rfl, rfl, rfl, h1, r1⟩ := trodAll_cons r0
  obtain ⟨v2, vs2, d2, ds2, p2, q2, rfl, rfl, rfl, h2, r2⟩ := trodAll_cons r1
  obtain ⟨v3, vs3, d3, ds3, p3, q3, rfl, rfl, rfl, h3, r3⟩ := trodAll_cons r2
  obtain ⟨rfl, rfl, rfl⟩ := trodAll_nil r3
  obtain rfl : args = #[v0, v1, v2, v3] := by cases args; simp_all
  obtain ⟨rfl, rfl⟩ := trodVars_none hV
  obtain ⟨a, n, c, rfl, x1, x2, x3⟩ := open_ents (hval 0 _ v0 rfl rfl) h0
  obtain ⟨a', n', c', rfl, y1, y2, y3⟩ := open_bs (hval 1 _ v1 rfl rfl) h1
  obtain ⟨z, rfl⟩ := open_num (hval 2 _ v2 rfl rfl)
  obtain ⟨u, rfl⟩ := open_u8 (hval 3 _ v3 rfl rfl) h3
  clear hA0 hval0
  refine (back_all W a a' n c n' c' z u ⟨x1, x2, fun h => x3 (by omega)⟩ ⟨y1, y2, fun h => y3 (by omega)⟩).mono fun e W' ⟨he, hb⟩ => ?_
  subst he
  have hl0 : ∀ x ∈ p0, x.block < W.heap.size := fun x hx => hlt x (by simp [hx])
  have hl1 : ∀ x ∈ p1, x.block < W.heap.size := fun x hx => hlt x (by simp [hx])
  have hl2 : ∀ x ∈ p2, x.block < W.heap.size := fun x hx => hlt x (by simp [hx])
  have hl3 : ∀ x ∈ p3, x.block < W.heap.size := fun x hx => hlt x (by simp [hx])
  have hlo : laidOutB Try.prog = true := by kernel_rfl
  have t0 := Below.trod hlo (show Try.prog.readableRec 22 = true by kernel_rfl) (by decide +kernel) h0 hb hl0
  have t1 := Below.trod hlo (show Try.prog.readableRec 23 = true by kernel_rfl) (by decide +kernel) h1 hb hl1
  have t2 := Below.trod hlo (show Try.prog.readableRec 3 = true by kernel_rfl) (by decide +kernel) h2 hb hl2
  have t3 := Below.trod hlo (show Try.prog.readableRec 5 = true by kernel_rfl) (by decide +kernel) h3 hb hl3
  refine ⟨_, rfl, _, _, _, [], p0 ++ (p1 ++ (p2 ++ (p3 ++ []))), [], hW', trodAll_cons_mk (shut_bool Try.underlying4 _) trodAll_mk0, ?_, rfl, World.keptBut_mono (fun p hp => ⟨hp, ?_⟩) (hb.frame (· ∈ _)), fun h => nomatch h⟩
  · exact trodAll_cons_mk t0 (trodAll_cons_mk t1 (trodAll_cons_mk t2 (trodAll_cons_mk t3 trodAll_mk0)))
  · simp at hp ⊢; exact hp
theorem back_over : Rows.segmentBackRow.holds Try.pinned (OpenSpec.ofChange Rows.segmentBackSpec) :=
  OpenClaim.holds_of_wide 4 Try.f4 rfl rfl rfl rfl rfl rfl rfl ⟨rfl, rfl, rfl, rfl, rfl⟩ rfl rfl rfl rfl rfl (by kernel_rfl) Try.func4 (by kernel_rfl)
    (of_decide_eq_true (by kernel_rfl)) (by unfold Func.isWrapper; first | (rw [if_pos (by decide +kernel)]; kernel_rfl) | (rw [if_neg (by decide +kernel)]; exact ⟨rfl, rfl⟩))
    (fun os started H enc _ => back_lifted os started H enc)
theorem segmentBack_holds : Rows.SegmentBackSaid := back_over
#print axioms segmentBack_holds
end Go.Proofs.Ytelijfdpgachnaa
