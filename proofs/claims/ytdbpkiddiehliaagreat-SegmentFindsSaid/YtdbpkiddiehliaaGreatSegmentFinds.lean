/- SegmentFinds: for every two lists of entries, every name and all packs the law returns true, and the arguments read afterwards as before. No condition. -/
import Derived.Test.YtdbpkiddiehliaaGreatRows
import Derived.Test.YtdbpkiddiehliaaGreatFindsLaw
import Derived.Test.YtdbpkiddiehliaaGreatJoinE
import Derived.Test.YtdbpkiddiehliaaGreatEqREnt
import Derived.Test.YtdbpkiddiehliaaGreatAlive10
import Derived.Test.YtdbpkiddiehliaaGreatOpenH
import Derived.ProofKit
import Derived.OpenShut
import Derived.Carry
import Derived.ChangeSame
namespace Go.Proofs.YtdbpkiddiehliaaGreat
open Go Go.RowKit Go.Sort Go.ChangeShapes Go.WideShapes Go.ChangeAt
set_option maxRecDepth 1000000 in
theorem eq_rwhere0 (x y z : Int) (w : World) : (Op.equalIn 10000 33 (.agg #[.int .i64 x, .int .i64 y, .int .i64 z]) (.agg #[.int .i64 x, .int .i64 y, .int .i64 z])).run Tryz.prog w = .ok true w := by
  have h1 := run_equalIn_agg (P := Tryz.prog) w 9999 33 #[.int .i64 x, .int .i64 y, .int .i64 z] #[.int .i64 x, .int .i64 y, .int .i64 z] Tryz.underlying33 (by kernel_rfl)
  rw [h1]
  have hi : ∀ (a b : Int) (w : World), (Op.equalIn 9999 3 (.int .i64 a) (.int .i64 b)).run Tryz.prog w = .ok (a == b) w := fun a b w => run_equalIn_int w 9998 3 .i64 .i64 a b Tryz.underlying3
  have hf : (Tryz.prog.fieldsOf 33).toList = [{ name := "Pack", type := 3, offset := 0, embedded := false, tag := "", pkgPath := "", byteOffset := 0 }, { name := "At", type := 3, offset := 1, embedded := false, tag := "", pkgPath := "", byteOffset := 8 }, { name := "Len", type := 3, offset := 2, embedded := false, tag := "", pkgPath := "", byteOffset := 16 }] := by
    unfold Program.fieldsOf; rw [Tryz.underlying33]
  have p0 : ∀ w : World, (part 3 #[.int .i64 x, .int .i64 y, .int .i64 z] 0).run Tryz.prog w = .ok (.int .i64 x) w := fun w => by simp [part, Tryz.isAgg3]
  have p1 : ∀ w : World, (part 3 #[.int .i64 x, .int .i64 y, .int .i64 z] 1).run Tryz.prog w = .ok (.int .i64 y) w := fun w => by simp [part, Tryz.isAgg3]
  have p2 : ∀ w : World, (part 3 #[.int .i64 x, .int .i64 y, .int .i64 z] 2).run Tryz.prog w = .ok (.int .i64 z) w := fun w => by simp [part, Tryz.isAgg3]
  rw [hf]
  simp [Op.eqFields, Sem.run_bind, p0, p1, p2, hi, Result.andThen_ok, Sem.run_ite, Sem.run_pure]
theorem fc : FC Tryz.prog := {
  ER := ⟨Tryz.underlying22, by kernel_rfl, by kernel_rfl, by decide, by decide⟩
  gR := by kernel_rfl
  eR := eq_rent
  gW := by kernel_rfl
  eqW := eq_rwhere0
  iR := by kernel_rfl
  iW := by kernel_rfl
  join := fun W v1 v2 l1 l2 h1 h2 hl => segJoin_ok W v1 v2 l1 l2 h1 h2 (by omega)
  without := fun W v v' l ps h1 h2 hl => segWithout_ok W v v' l ps h1 h2 (by omega)
  alive := alive_ok
  f_l10alive := Tryz.func4
  f_segFinds := Tryz.func3
  f_segJoin := Tryz.func11
  f_segWithout := Tryz.func13
  }
theorem finds_all (w : World) (a1 a2 a3 : Option Addr) (n1 c1 n2 c2 n3 c3 : Nat) (n : Nm) (h1 : Arg w a1 n1 c1) (h2 : Arg w a2 n2 c2) (h3 : ArgI w a3 n3 c3) :
    Calls Tryz.prog 3 #[.slice a1 n1 c1, .slice a2 n2 c2, .agg (bcells n.1).toArray, .slice a3 n3 c3] w fun e w' => e = .returned (.bool true) ∧ Below w.heap.size w w' := by
  by_cases hl : n1 ≤ 60 ∧ n2 ≤ 60 ∧ n3 ≤ 20
  · exact finds_short sg sr sd pc fc w a1 a2 a3 n1 c1 n2 c2 n3 c3 n h1 h2 h3 hl.1 hl.2.1 hl.2.2
  · exact finds_long sg sd fc w a1 a2 a3 n1 c1 n2 c2 n3 c3 n h1 h2 h3 hl
theorem ownGoF : ownKnob Tryz.prog.godebug = none := by kernel_rfl
set_option maxRecDepth 100000 in
theorem finds_lifted (os : Os) (started : os.Started) (H : Type) (enc : TypeId × Value → H) :
    ReturnsInHanded {} Tryz.checked os 3 .any (Rows.segmentFindsSpec.pre6 enc Tryz.prog Tryz.f3 Rows.segmentFindsRow.domain false) (Rows.segmentFindsSpec.post enc Tryz.prog Tryz.f3 false true false false) := by
  refine returnsInHanded_of_change (C := Tryz.checked) ownGoF started (by kernel_rfl) Tryz.func3
    (ChangeSpec.witness6 (enc := enc) (C := Tryz.checked) false ⟨#[], #[.slice none 0 0, .slice none 0 0, .agg (Array.replicate 32 (.int .u8 0)), .slice none 0 0], []⟩ 8 (by kernel_rfl) (by kernel_rfl) (by kernel_rfl) (by kernel_rfl)) ?_
  intro W base args ds gs before hval0 hW hcnd _
  have hval : ∀ (j : Nat) t v, Tryz.f3.params[j]? = some t → args[j]? = some v → Value.okWide Tryz.prog W .any base t v := hval0
  have hW' := hW
  have hlt := fun p hp => hW.lt (p := p) hp
  obtain ⟨p, q, hA0, hV, rfl, hfz, hnd⟩ := hW
  have hA : DataW.TrodAll enc Tryz.prog W 0 (fun _ => true) true Tryz.f3.params.toList args.toList ds p := hA0
  rw [Tryz.params3] at hA hval
  obtain ⟨v0, vs0, d0, ds0, p0, q0, hargs, rfl, rfl, h0, r0⟩ := trodAll_cons hA
  obtain ⟨v1, vs1, d1, ds1, p1, q1, rfl, rfl, rfl, h1, r1⟩ := trodAll_cons r0
  obtain ⟨v2, vs2, d2, ds2, p2, q2, rfl, rfl, rfl, h2, r2⟩ := trodAll_cons r1
  obtain ⟨v3, vs3, d3, ds3, p3, q3, rfl, rfl, rfl, h3, r3⟩ := trodAll_cons r2
  obtain ⟨rfl, rfl, rfl⟩ := trodAll_nil r3
  obtain rfl : args = #[v0, v1, v2, v3] := by cases args; simp_all
  obtain ⟨rfl, rfl⟩ := trodVars_none hV
  obtain ⟨a, n, c, rfl, x1, x2, x3⟩ := open_ents (hval 0 _ v0 rfl rfl) h0
  obtain ⟨a', n', c', rfl, y1, y2, y3⟩ := open_ents (hval 1 _ v1 rfl rfl) h1
  obtain ⟨nm, rfl⟩ := open_nm (hval 2 _ v2 rfl rfl) h2
  obtain ⟨b, m, d, rfl, z1, z2, z3⟩ := open_is (hval 3 _ v3 rfl rfl) h3
  clear hA0 hval0
  refine (finds_all W a a' b n c n' c' m d nm ⟨x1, x2, fun h => x3 (by omega)⟩ ⟨y1, y2, fun h => y3 (by omega)⟩ ⟨z1, z2, fun h => z3 (by omega)⟩).mono fun e W' ⟨he, hb⟩ => ?_
  subst he
  have hl0 : ∀ x ∈ p0, x.block < W.heap.size := fun x hx => hlt x (by simp [hx])
  have hl1 : ∀ x ∈ p1, x.block < W.heap.size := fun x hx => hlt x (by simp [hx])
  have hl2 : ∀ x ∈ p2, x.block < W.heap.size := fun x hx => hlt x (by simp [hx])
  have hl3 : ∀ x ∈ p3, x.block < W.heap.size := fun x hx => hlt x (by simp [hx])
  have hlo : laidOutB Tryz.prog = true := by kernel_rfl
  have t0 := Below.trod hlo (show Tryz.prog.readableRec 22 = true by kernel_rfl) (by decide +kernel) h0 hb hl0
  have t1 := Below.trod hlo (show Tryz.prog.readableRec 22 = true by kernel_rfl) (by decide +kernel) h1 hb hl1
  have t2 := Below.trod hlo (show Tryz.prog.readableRec 24 = true by kernel_rfl) (by decide +kernel) h2 hb hl2
  have t3 := Below.trod hlo (show Tryz.prog.readableRec 25 = true by kernel_rfl) (by decide +kernel) h3 hb hl3
  refine ⟨_, rfl, _, _, _, [], p0 ++ (p1 ++ (p2 ++ (p3 ++ []))), [], hW', trodAll_cons_mk (shut_bool Tryz.underlying4 _) trodAll_mk0, ?_, rfl, World.keptBut_mono (fun p hp => ⟨hp, ?_⟩) (hb.frame (· ∈ _)), fun h => nomatch h⟩
  · exact trodAll_cons_mk t0 (trodAll_cons_mk t1 (trodAll_cons_mk t2 (trodAll_cons_mk t3 trodAll_mk0)))
  · simp at hp ⊢; exact hp
theorem finds_over : Rows.segmentFindsRow.holds Tryz.pinned (OpenSpec.ofChange Rows.segmentFindsSpec) :=
  OpenClaim.holds_of_wide 3 Tryz.f3 rfl rfl rfl rfl rfl rfl rfl ⟨rfl, rfl, rfl, rfl, rfl⟩ rfl rfl rfl rfl rfl (by kernel_rfl) Tryz.func3 (by kernel_rfl)
    (of_decide_eq_true (by kernel_rfl)) (by unfold Func.isWrapper; first | (rw [if_pos (by decide +kernel)]; kernel_rfl) | (rw [if_neg (by decide +kernel)]; exact ⟨rfl, rfl⟩))
    (fun os started H enc _ => finds_lifted os started H enc)
theorem segmentFinds_holds : Rows.SegmentFindsSaid := finds_over
#print axioms segmentFinds_holds
end Go.Proofs.YtdbpkiddiehliaaGreat
