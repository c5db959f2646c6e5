/- SimfsSafe: for every two lists of calls, name, bytes, number and cuts the law of what is synced answers true, and all of them read as before. No condition. -/
import Derived.Test.YtgehalfnpbjjcaaSafeLaw
import Derived.ProofKit
import Derived.OpenShut
import Derived.Carry
import Derived.ChangeSame
import Derived.Test.YtgehalfnpbjjcaaRows
namespace Go.Proofs.Ytgehalfnpbjjcaa
open Go Go.RowKit Go.Sort Go.ChangeShapes Go.WideShapes Go.ChangeAt
theorem safe_all (w : World) (a0 : Option Addr) (n0 c0 : Nat) (nm : ByteArray) (a2 : Option Addr) (n2 c2 : Nat) (a3 : Option Addr) (n3 c3 : Nat) (k : Int) (a5 : Option Addr) (n5 c5 : Nat) (h0 : AOps w a0 n0 c0) (h2 : ABs w a2 n2 c2) (h3 : AOps w a3 n3 c3) (h5 : AIs w a5 n5 c5) :
    Calls Try.prog 4 #[.slice a0 n0 c0, .string nm, .slice a2 n2 c2, .slice a3 n3 c3, .int .i64 k, .slice a5 n5 c5] w fun e w' => e = .returned (.bool true) ∧ Below w.heap.size w w' := by
  by_cases e0 : 20 < n0
  · exact safe_out1 w a0 n0 c0 nm a2 n2 c2 a3 n3 c3 k a5 n5 c5 (hid (light_long w a0 n0 c0 20 e0))
  obtain ⟨l, rfl, hG0, hr0⟩ := h0.2.2 (Nat.le_trans (Nat.le_of_not_lt e0) (by decide))
  have HL0 := hid (light_short w a0 c0 l hr0 20 (by omega) (by decide))
  by_cases e3 : 20 < n3
  · exact safe_out2 w a0 l.length c0 nm a2 n2 c2 a3 n3 c3 k a5 n5 c5 l HL0 (hid (light_long w a3 n3 c3 20 e3))
  obtain ⟨more, rfl, hG3, hr3⟩ := h3.2.2 (Nat.le_trans (Nat.le_of_not_lt e3) (by decide))
  have HL3 := hid (light_short w a3 c3 more hr3 20 (by omega) (by decide))
  by_cases e2 : 200 < n2
  · exact safe_out3 w a0 l.length c0 nm a2 n2 c2 a3 more.length c3 k a5 n5 c5 l more HL0 HL3 (.inl e2)
  by_cases e5 : 60 < n5
  · exact safe_out3 w a0 l.length c0 nm a2 n2 c2 a3 more.length c3 k a5 n5 c5 l more HL0 HL3 (.inr (.inl e5))
  cases en : nameR nm with
  | false => exact safe_out3 w a0 l.length c0 nm a2 n2 c2 a3 more.length c3 k a5 n5 c5 l more HL0 HL3 (.inr (.inr en))
  | true =>
    obtain ⟨b, rfl, hb⟩ := h2.2.2 (Nat.le_trans (Nat.le_of_not_lt e2) (by decide))
    obtain ⟨cuts, rfl, hc⟩ := h5.2.2 (Nat.le_trans (Nat.le_of_not_lt e5) (by decide))
    exact safe_main w a0 c0 l nm a2 c2 b a3 c3 more k a5 c5 cuts hr0 hG0 (by omega) hr3 hG3 (by omega) hb (by omega) hc (by omega) en HL0 HL3
theorem ownGoM : ownKnob Try.prog.godebug = none := by kernel_rfl
set_option maxRecDepth 100000 in
theorem safe_lifted (os : Os) (started : os.Started) (H : Type) (enc : TypeId × Value → H) :
    ReturnsInHanded {} Try.checked os 4 .any (Rows.simfsSafeSpec.pre6 enc Try.prog Try.f4 Rows.simfsSafeRow.domain false) (Rows.simfsSafeSpec.post enc Try.prog Try.f4 false true false false) := by
  refine returnsInHanded_of_change (C := Try.checked) ownGoM started (by kernel_rfl) Try.func4
    (ChangeSpec.witness6 (enc := enc) (C := Try.checked) false ⟨#[], #[.slice none 0 0, .string ByteArray.empty, .slice none 0 0, .slice none 0 0, .int .i64 0, .slice none 0 0], []⟩ 8 (by kernel_rfl) (by kernel_rfl) (by kernel_rfl) (by kernel_rfl)) ?_
  intro W base args ds gs before hval0 hW hcnd _
  have hval : ∀ (j : Nat) t v, Try.f4.params[j]? = some t → args[j]? = some v → Value.okWide Try.prog W .any base t v := hval0
  have hW' := hW
  have hlt := fun p hp => hW.lt (p := p) hp
  obtain ⟨p, q, hA0, hV, rfl, hfz, hnd⟩ := hW
  have hA : DataW.TrodAll enc Try.prog W 0 (fun _ => true) true Try.f4.params.toList args.toList ds p := hA0
  rw [Try.params4] at hA hval
  obtain ⟨v0, vs0, d0, ds0, p0, q0, hargs, rfl, rfl, h0, r0⟩ := trodAll_cons hA
  obtain ⟨v1, vs1, d1, ds1, p1, q1, rfl, rfl, rfl, h1, r1⟩ := trodAll_cons r0
  obtain ⟨v2, vs2, d2, ds2, p2, q2, rfl, rfl, rfl, h2, r2⟩ := trodAll_cons r1
  obtain ⟨v3, vs3, d3, ds3, p3, q3, rfl, rfl, rfl, h3, r3⟩ := trodAll_cons r2
  obtain ⟨v4, vs4, d4, ds4, p4, q4, rfl, rfl, rfl, h4, r4⟩ := trodAll_cons r3
  obtain ⟨v5, vs5, d5, ds5, p5, q5, rfl, rfl, rfl, h5, r5⟩ := trodAll_cons r4
  obtain ⟨rfl, rfl, rfl⟩ := trodAll_nil r5
  obtain rfl : args = #[v0, v1, v2, v3, v4, v5] := by cases args; simp_all
  obtain ⟨rfl, rfl⟩ := trodVars_none hV
  obtain ⟨a0, n0, c0, rfl, x0⟩ := open_ops (hval 0 _ v0 rfl rfl) h0
  obtain ⟨nm, rfl⟩ : ∃ s, v1 = .string s := by
    obtain ⟨s, e, _⟩ := Go.ChangeMaps.open_string Try.underlying9 (hval 1 _ v1 rfl rfl) h1
    exact ⟨s, e⟩
  obtain ⟨a2, n2, c2, rfl, x2⟩ := open_bytes (hval 2 _ v2 rfl rfl) h2
  obtain ⟨a3, n3, c3, rfl, x3⟩ := open_ops (hval 3 _ v3 rfl rfl) h3
  obtain ⟨k, rfl⟩ : ∃ n, v4 = .int .i64 n := by
    obtain ⟨n, e, _⟩ := open_int Try.underlying3 (hval 4 _ v4 rfl rfl) h4
    exact ⟨n, e⟩
  obtain ⟨a5, n5, c5, rfl, x5⟩ := open_ints' (hval 5 _ v5 rfl rfl) h5
  clear hA0 hval0
  refine (safe_all W a0 n0 c0 nm a2 n2 c2 a3 n3 c3 k a5 n5 c5 x0 x2 x3 x5).mono fun e W' ⟨he, hb⟩ => ?_
  subst he
  have hl0 : ∀ x ∈ p0, x.block < W.heap.size := fun x hx => hlt x (by simp [hx])
  have hl1 : ∀ x ∈ p1, x.block < W.heap.size := fun x hx => hlt x (by simp [hx])
  have hl2 : ∀ x ∈ p2, x.block < W.heap.size := fun x hx => hlt x (by simp [hx])
  have hl3 : ∀ x ∈ p3, x.block < W.heap.size := fun x hx => hlt x (by simp [hx])
  have hl4 : ∀ x ∈ p4, x.block < W.heap.size := fun x hx => hlt x (by simp [hx])
  have hl5 : ∀ x ∈ p5, x.block < W.heap.size := fun x hx => hlt x (by simp [hx])
  have hlo : laidOutB Try.prog = true := by kernel_rfl
  have t0 := Below.trod hlo (show Try.prog.readableRec 38 = true by kernel_rfl) (by decide +kernel) h0 hb hl0
  have t1 := Below.trod hlo (show Try.prog.readableRec 9 = true by kernel_rfl) (by decide +kernel) h1 hb hl1
  have t2 := Below.trod hlo (show Try.prog.readableRec 30 = true by kernel_rfl) (by decide +kernel) h2 hb hl2
  have t3 := Below.trod hlo (show Try.prog.readableRec 38 = true by kernel_rfl) (by decide +kernel) h3 hb hl3
  have t4 := Below.trod hlo (show Try.prog.readableRec 3 = true by kernel_rfl) (by decide +kernel) h4 hb hl4
  have t5 := Below.trod hlo (show Try.prog.readableRec 39 = true by kernel_rfl) (by decide +kernel) h5 hb hl5
  refine ⟨_, rfl, _, _, _, [], p0 ++ (p1 ++ (p2 ++ (p3 ++ (p4 ++ (p5 ++ []))))), [], hW', trodAll_cons_mk (shut_bool Try.underlying4 _) trodAll_mk0, ?_, rfl, World.keptBut_mono (fun p hp => ⟨hp, ?_⟩) (hb.frame (· ∈ _)), fun h => nomatch h⟩
  · exact trodAll_cons_mk t0 (trodAll_cons_mk t1 (trodAll_cons_mk t2 (trodAll_cons_mk t3 (trodAll_cons_mk t4 (trodAll_cons_mk t5 trodAll_mk0)))))
  · simp at hp ⊢; exact hp
theorem safe_over : Rows.simfsSafeRow.holds Try.pinned (OpenSpec.ofChange Rows.simfsSafeSpec) :=
  OpenClaim.holds_of_wide 4 Try.f4 rfl rfl rfl rfl rfl rfl rfl ⟨rfl, rfl, rfl, rfl, rfl⟩ rfl rfl rfl rfl rfl (by kernel_rfl) Try.func4 (by kernel_rfl)
    (of_decide_eq_true (by kernel_rfl)) (by unfold Func.isWrapper; first | (rw [if_pos (by decide +kernel)]; kernel_rfl) | (rw [if_neg (by decide +kernel)]; exact ⟨rfl, rfl⟩))
    (fun os started H enc _ => safe_lifted os started H enc)
theorem simfsSafe_holds : Rows.SimfsSafeSaid := safe_over
#print axioms simfsSafe_holds
end Go.Proofs.Ytgehalfnpbjjcaa
