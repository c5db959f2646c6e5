/- slices.symMergeCmpFunc at segment's entries, whole. -/
import Derived.Test.YtdbpkiddiehliaaGreatStable4
import Derived.Deep.CutBlock
import Derived.Deep.DeepCutAuto
import Derived.Outline
namespace Go.Proofs.YtdbpkiddiehliaaGreat
open Go Go.RowKit Go.Sort
variable {P : Program} {k : Nat} {α : Type} [Inhabited α]
/-- A merge has been done. -/
def AfterS (lt : α → α → Bool) (enc : α → List Value) (k : Nat) (w0 : World) (blk off a b : Nat) (d : Array α) (w' : World) : Prop := ∃ d', Mrg lt a b d d' ∧ SWK enc k w0 blk off d' w'
set_option maxHeartbeats 8000000 in
set_option maxRecDepth 1000000 in
theorem symE_ok (L : SE P k) (enc : α → List Value) (cf : α → α → Int) (g : Nat) (cb : Array Value) (blk off cap : Nat) (d0 : Array α) (w0 : World)
    (eg : ∀ args w, (callFunc g args).run P w = .ok (.enter g args) w) (hcmp : CmpLays P g cb enc k cf blk off d0.size w0) (R : RowK enc k w0 blk off d0) (hO : SWO (ltOf cf)) :
    ∀ (N a m b : Nat) (d : Array α) (w : World), b - a < N → d0.size = d.size → SWK enc k w0 blk off d w → a < m → m < b → b ≤ d.size → d.size < 4611686018427387904 → SortedIn (ltOf cf) a m d → SortedIn (ltOf cf) m b d →
    Calls P 70 #[.slice (some ⟨blk, off, none⟩) d.size cap, .int .i64 a, .int .i64 m, .int .i64 b, .func (.func g) #[] cb] w (SymPost (ltOf cf) enc k w0 blk off a b d) := by
  intro N
  induction N with
  | zero => intro _ _ _ _ _ h; exact absurd h (Nat.not_lt_zero _)
  | succ N ih =>
    intro a m b d w hN hs S ham hmb hb hsz s1 s2
    by_cases c1 : m = a + 1
    · exact sym_left L enc cf g cb blk off cap a m b d0 d w0 w eg hcmp R hO hs S c1 hmb hb hsz s2
    by_cases c2 : b = m + 1
    · exact sym_right L enc cf g cb blk off cap a m b d0 d w0 w eg hcmp R hO hs S (by omega) c2 hb hsz s1
    have mixed := L.mixed; have t0 := L.t0; have a0 := L.a0; have z0 := L.z0; have v0 := L.v0; have ti := L.ti; have ai := L.ai; have zi := L.zi; have vi := L.vi; have tb := L.tb; have ab := L.ab; have zb := L.zb; have vb := L.vb; have ts := L.ts; have az := L.az; have zs := L.zs; have vs := L.vs; have tf := L.tf; have af := L.af; have zf := L.zf; have vf := L.vf; have tu := L.tu; have au := L.au; have zu := L.zu; have vu := L.vu; have aE := L.aE; have zE := L.zE
    have HC : Aside _ := hcmp
    have S0 : Aside (SWK enc k w0 blk off d w) := S
    have S12 := hid (And.intro s1 s2)
    have HO := hid hO
    have IH : Aside _ := ih
    have e5 : ∀ args w, (callFunc 79 args).run P w = .ok (.enter 79 args) w := enters_of L.f5 rfl rfl
    have e4 : ∀ args w, (callFunc 70 args).run P w = .ok (.enter 70 args) w := enters_of L.f4 rfl rfl
    clear S hcmp s1 s2 hO ih
    have hbq1 : (((m : Int) - (a : Int)) == 1) = false := by simp; omega
    have hbq : (((b : Int) - (m : Int)) == 1) = false := by simp; omega
    obtain ⟨mid, hmid⟩ : ∃ mid, mid = (a + b) / 2 := ⟨_, rfl⟩
    have hm2 : ((a : Int) + (b : Int)) / 2 = (mid : Int) := by omega
    have hm3 : a < mid := by omega
    have hm4 : mid < b := by omega
    have hm5 : a + b ≤ 2 * mid + 1 := by omega
    have hm6 : 2 * mid ≤ a + b := by omega
    have HMID := hid hmid
    clear hmid c1 c2
    obtain ⟨lo, hi, hlh⟩ : ∃ lo hi, if mid < m then lo = mid + m - b ∧ hi = mid else lo = a ∧ hi = m := by
      by_cases h : mid < m
      · exact ⟨_, _, by rw [if_pos h]; exact ⟨rfl, rfl⟩⟩
      · exact ⟨_, _, by rw [if_neg h]; exact ⟨rfl, rfl⟩⟩
    have hl1 : lo ≤ hi := by by_cases h : mid < m <;> simp only [h, if_true, if_false] at hlh <;> omega
    have hl2 : a ≤ lo := by by_cases h : mid < m <;> simp only [h, if_true, if_false] at hlh <;> omega
    have hl3 : hi ≤ mid := by by_cases h : mid < m <;> simp only [h, if_true, if_false] at hlh <;> omega
    have hl4 : hi ≤ m := by by_cases h : mid < m <;> simp only [h, if_true, if_false] at hlh <;> omega
    have hl5 : mid + m ≤ b + lo := by by_cases h : mid < m <;> simp only [h, if_true, if_false] at hlh <;> omega
    have HLH := hid hlh
    clear hlh
    go_enter L.f4, Tryz.ntmps70
    go_upto_if 140 with fail
    go_cut [20, 21] from 25 (fun s20 s21 wc => s20 = .int .i64 lo ∧ s21 = .int .i64 hi ∧ Aside (SWK enc k w0 blk off d wc))
    case first =>
      have hlh := HLH.out
      by_cases h : mid < m
      · rw [if_pos h] at hlh
        have e1 : (mid : Int) + (m : Int) - (b : Int) = (lo : Int) := by omega
        have e2 : (mid : Int) = (hi : Int) := by omega
        have E2 := hid e2
        clear e2 hlh
        go_wp2_with fail
        go_meet
        case rel => exact ⟨rfl, by rw [E2.out], S0⟩
      · rw [if_neg h] at hlh
        obtain ⟨rfl, rfl⟩ := hlh
        go_wp2_with fail
        go_meet
        case rel => exact ⟨rfl, rfl, S0⟩
    case rest =>
      clear S0
      obtain ⟨rfl, rfl, S0⟩ := hcut
      go_wp2
      go_loopg [20, 21] (hi - lo) (fun kx s20 s21 wr => ∃ (s r : Nat), s20 = .int .i64 s ∧ s21 = .int .i64 r ∧ lo ≤ s ∧ s ≤ r ∧ r ≤ hi ∧ r - s ≤ kx ∧ Hid (lo < s → ltOf cf d[mid + m - s]! d[s - 1]! = false) ∧ Hid (r < hi → ltOf cf d[mid + m - 1 - r]! d[r]! = true) ∧ Aside (SWK enc k w0 blk off d wr))
      case atStart => exact ⟨lo, hi, rfl, rfl, Nat.le_refl _, hl1, Nat.le_refl _, Nat.le_refl _, hid (fun h => absurd h (by omega)), hid (fun h => absurd h (by omega)), S0⟩
      case round =>
        clear S0
        obtain ⟨s, r, rfl, rfl, hls, hsr, hrh, hkx, H1, H2, S1⟩ := hrel
        by_cases hlt : s < r
        · obtain ⟨c, hh⟩ : ∃ c, c = (s + r) / 2 := ⟨_, rfl⟩
          have hh2 : ((s : Int) + (r : Int)) / 2 = (c : Int) := by omega
          have hh3 : s ≤ c := by omega
          have hh4 : c < r := by omega
          clear hh
          obtain ⟨q, hq⟩ : ∃ q, q = mid + m - 1 - c := ⟨_, rfl⟩
          have hq2 : (mid : Int) + (m : Int) - 1 - (c : Int) = (q : Int) := by omega
          have HQ := hid hq
          have hq3 : q < d.size := by omega
          clear hq
          have ea1 : ((q : Int)).toNat = q := by omega
          have pa1 : (0 : Int) ≤ (q : Int) := by omega
          have ba1 : (q : Int) < (d.size : Int) := by omega
          have ra1 : IntKind.i64.wrap ((q : Int)) = (q : Int) := by rw [IntKind.wrap_i64]; omega
          have ea2 : ((c : Int)).toNat = c := by omega
          have pa2 : (0 : Int) ≤ (c : Int) := by omega
          have ba2 : (c : Int) < (d.size : Int) := by omega
          have ra2 : IntKind.i64.wrap ((c : Int)) = (c : Int) := by rw [IntKind.wrap_i64]; omega
          cases hlv : ltOf cf d[q]! d[c]! with
          | false =>
            obtain ⟨x3, hx3⟩ : ∃ x, x = d[q]! := ⟨_, rfl⟩
            obtain ⟨y3, hy3⟩ : ∃ x, x = d[c]! := ⟨_, rfl⟩
            have l3a := S1.out.ld R (by omega) P (q) (by omega)
            have l3b := S1.out.ld R (by omega) P (c) (by omega)
            rw [← hx3] at l3a
            rw [← hy3] at l3b
            have hc3 := S1.out.cmp HC.out (by omega) x3 y3
            have hd3 : decide (cf x3 y3 < 0) = false := by rw [hx3, hy3]; exact hlv
            have hv3 := hd3
            first | rw [decide_eq_true_eq] at hv3 | rw [decide_eq_false_iff_not] at hv3
            have HLV := hid hlv
            clear hx3 hy3 hlv
            go_wp2_with fail
            go_quiet_grown (first | (go_at_fn g; refine Calls.grown_of (hc3 _ _)))
            have S3 : Aside (SWK enc k w0 blk off d (grow (wr.drewN nq) osq)) := S1.out.grown nq osq
            clear l3a l3b hc3 S1
            generalize grow (wr.drewN nq) osq = w23 at S3 ⊢
            clear nq osq
            go_wp2
            go_roundg (r - (c + 1))
            case measure => omega
            case rel => exact ⟨c + 1, r, by go_num, rfl, by omega, by omega, hrh, Nat.le_refl _, hid (fun _ => by rw [show mid + m - (c + 1) = q by have := HQ.out; omega]; exact HLV.out), H2, S3⟩
          | true =>
            obtain ⟨x4, hx4⟩ : ∃ x, x = d[q]! := ⟨_, rfl⟩
            obtain ⟨y4, hy4⟩ : ∃ x, x = d[c]! := ⟨_, rfl⟩
            have l4a := S1.out.ld R (by omega) P (q) (by omega)
            have l4b := S1.out.ld R (by omega) P (c) (by omega)
            rw [← hx4] at l4a
            rw [← hy4] at l4b
            have hc4 := S1.out.cmp HC.out (by omega) x4 y4
            have hd4 : decide (cf x4 y4 < 0) = true := by rw [hx4, hy4]; exact hlv
            have hv4 := hd4
            first | rw [decide_eq_true_eq] at hv4 | rw [decide_eq_false_iff_not] at hv4
            have HLV := hid hlv
            clear hx4 hy4 hlv
            go_wp2_with fail
            go_quiet_grown (first | (go_at_fn g; refine Calls.grown_of (hc4 _ _)))
            have S3 : Aside (SWK enc k w0 blk off d (grow (wr.drewN nq) osq)) := S1.out.grown nq osq
            clear l4a l4b hc4 S1
            generalize grow (wr.drewN nq) osq = w24 at S3 ⊢
            clear nq osq
            go_wp2
            go_roundg (c - s)
            case measure => omega
            case rel => exact ⟨s, c, rfl, rfl, hls, by omega, by omega, Nat.le_refl _, H1, hid (fun _ => by rw [← HQ.out]; exact HLV.out), S3⟩
        · obtain rfl : s = r := by omega
          obtain ⟨e, he⟩ : ∃ e, e = mid + m - s := ⟨_, rfl⟩
          have he2 : (mid : Int) + (m : Int) - (s : Int) = (e : Int) := by omega
          have he3 : m ≤ e := by omega
          have he4 : e ≤ b := by omega
          have he5 : s + (e - m) = mid := by omega
          have hcut := Cut.of_search (lt := ltOf cf) HO.out ham hmb hb S12.out.1 S12.out.2 (s := s) (lo := lo) (hi := hi) (by rw [← HMID.out]; exact HLH.out) hls hrh (by rw [← HMID.out]; exact H1.out) (by rw [← HMID.out]; exact H2.out)
          rw [← HMID.out, ← he] at hcut
          have hC := Cut.turned HO.out hcut he5
          have hdd : ¬ (s < m ∧ m < e) → rot d s m e = d := fun hn => by
            by_cases q : s < m
            · obtain rfl : e = m := by omega
              exact rot_self d s e (by omega) (by omega)
            · obtain rfl : s = m := by omega
              exact rot_self' d s e he3 (by omega)
          have hz1 := hC.size
          have HCC := hid hC
          have HDD := hid hdd
          clear hC hcut hdd he H1 H2
          obtain ⟨d1, hd1⟩ : ∃ d1, d1 = rot d s m e := ⟨_, rfl⟩
          rw [← hd1] at HCC hz1
          have HD1 := hid hd1
          clear hd1
          have hc1 : s < m → m < e → Calls P 79 #[.slice (some ⟨blk, off, none⟩) d.size cap, .int .i64 s, .int .i64 m, .int .i64 e, .func (.func g) #[] cb] wr fun e w' => e = .returned (.tuple #[]) ∧ SWK enc k w0 blk off d1 w' := fun q1 q2 => by
            rw [HD1.out]; exact rotE_ok L enc blk off cap s m e d0 d w0 wr (.func (.func g) #[] cb) R hs S1.out q1 q2 (by omega) hsz
          have hd1 : ¬ (s < m ∧ m < e) → SWK enc k w0 blk off d1 wr := fun h => by rw [HD1.out, HDD.out h]; exact S1.out
          have hc2 : ∀ W, SWK enc k w0 blk off d1 W → a < s → s < mid → Calls P 70 #[.slice (some ⟨blk, off, none⟩) d.size cap, .int .i64 a, .int .i64 s, .int .i64 mid, .func (.func g) #[] cb] W (SymPost (ltOf cf) enc k w0 blk off a mid d1) := fun W hW q1 q2 => by
            have := IH.out a s mid d1 W (by omega) (by omega) hW q1 q2 (by omega) (by omega) HCC.out.s1 HCC.out.s2
            rwa [hz1] at this
          have hc3 : ∀ W d2, Mrg (ltOf cf) a mid d1 d2 → SWK enc k w0 blk off d2 W → mid < e → e < b → Calls P 70 #[.slice (some ⟨blk, off, none⟩) d.size cap, .int .i64 mid, .int .i64 e, .int .i64 b, .func (.func g) #[] cb] W (SymPost (ltOf cf) enc k w0 blk off mid b d2) := fun W d2 hM1 hW q1 q2 => by
            have hs3 : SortedIn (ltOf cf) mid e d2 := fun i j h1 h2 h3 => by rw [hM1.out i (by omega), hM1.out j (by omega)]; exact HCC.out.s3 i j h1 h2 h3
            have hs4 : SortedIn (ltOf cf) e b d2 := fun i j h1 h2 h3 => by rw [hM1.out i (by omega), hM1.out j (by omega)]; exact HCC.out.s4 i j h1 h2 h3
            have := IH.out mid e b d2 W (by omega) (by have := hM1.size; omega) hW q1 q2 (by have := hM1.size; omega) (by have := hM1.size; omega) hs3 hs4
            rwa [hM1.size, hz1] at this
          have hj : ∀ d2 d3, Mrg (ltOf cf) a mid d1 d2 → Mrg (ltOf cf) mid b d2 d3 → Mrg (ltOf cf) a b d d3 := fun d2 d3 h1 h2 => HCC.out.joined HO.out (by omega) (by omega) hb h1 h2
          have hi1 : a = s → Mrg (ltOf cf) a mid d1 d1 := fun h => by subst h; exact Mrg.idle HCC.out.s2
          have hi2 : s = mid → Mrg (ltOf cf) a mid d1 d1 := fun h => by subst h; exact Mrg.idle HCC.out.s1
          have hi3 : ∀ d2, Mrg (ltOf cf) a mid d1 d2 → e = b → Mrg (ltOf cf) mid b d2 d2 := fun d2 hM h => by
            subst h; exact Mrg.idle fun i j h1 h2 h3 => by rw [hM.out i (by omega), hM.out j (by omega)]; exact HCC.out.s3 i j h1 h2 h3
          have hi4 : ∀ d2, Mrg (ltOf cf) a mid d1 d2 → mid = e → Mrg (ltOf cf) mid b d2 d2 := fun d2 hM h => by
            subst h; exact Mrg.idle fun i j h1 h2 h3 => by rw [hM.out i (by omega), hM.out j (by omega)]; exact HCC.out.s4 i j h1 h2 h3
          have C1 := hid hc1
          have D1 := hid hd1
          have C2 := hid hc2
          have C3 := hid hc3
          have J := hid hj
          have I1 := hid hi1
          have I2 := hid hi2
          have I3 := hid hi3
          have I4 := hid hi4
          clear hc1 hd1 hc2 hc3 hj hi1 hi2 hi3 hi4 HCC HDD HD1 IH HC HLH HMID S12 HO S1 hz1
          by_cases q1 : s < m
          · by_cases q2 : m < e
            · have q3 : s < mid := by omega
              have q4 : mid < e := by omega
              have C1 := C1.out q1 q2
              by_cases q5 : a < s
              · by_cases q6 : e < b
                · go_wp2_with (first | (go_at_fn 79; refine C1.mono ?_; rintro e w1 ⟨rfl, hw1⟩; have W1 := hid hw1; clear hw1) | (go_at_fn 70; refine (C2.out _ W1.out q5 q3).mono ?_; rintro e w2 ⟨rfl, d2, hM, hw2⟩; have W2 := hid (And.intro hM hw2); clear hM hw2) | (go_at_fn 70; refine (C3.out _ _ W2.out.1 W2.out.2 q4 q6).mono ?_; rintro e w3 ⟨rfl, d3, hM, hw3⟩; have W3 := hid (And.intro hM hw3); clear hM hw3))
                  go_end0
                  exact ⟨rfl, d3, J.out _ _ W2.out.1 W3.out.1, W3.out.2⟩
                · go_wp2_with (first | (go_at_fn 79; refine C1.mono ?_; rintro e w1 ⟨rfl, hw1⟩; have W1 := hid hw1; clear hw1) | (go_at_fn 70; refine (C2.out _ W1.out q5 q3).mono ?_; rintro e w2 ⟨rfl, d2, hM, hw2⟩; have W2 := hid (And.intro hM hw2); clear hM hw2))
                  go_end0
                  exact ⟨rfl, d2, J.out _ _ W2.out.1 (I3.out _ W2.out.1 (by omega)), W2.out.2⟩
              · by_cases q6 : e < b
                · have M1 := hid (I1.out (by omega))
                  go_wp2_with (first | (go_at_fn 79; refine C1.mono ?_; rintro e w1 ⟨rfl, hw1⟩; have W1 := hid hw1; clear hw1) | (go_at_fn 70; refine (C3.out _ _ M1.out W1.out q4 q6).mono ?_; rintro e w3 ⟨rfl, d3, hM, hw3⟩; have W3 := hid (And.intro hM hw3); clear hM hw3))
                  go_end0
                  exact ⟨rfl, d3, J.out _ _ M1.out W3.out.1, W3.out.2⟩
                · have M1 := hid (I1.out (by omega))
                  go_wp2_with (first | (go_at_fn 79; refine C1.mono ?_; rintro e w1 ⟨rfl, hw1⟩; have W1 := hid hw1; clear hw1))
                  go_end0
                  exact ⟨rfl, d1, J.out _ _ M1.out (I3.out _ M1.out (by omega)), W1.out⟩
            · have q3 : ¬ s < mid := by omega
              have q4 : mid < e := by omega
              have q6 : e < b := by omega
              have W1 := hid (D1.out (fun h => q2 h.2))
              have M1 := hid (I2.out (by omega))
              by_cases q5 : a < s
              all_goals
                go_wp2_with (go_at_fn 70; refine (C3.out _ _ M1.out W1.out q4 q6).mono ?_; rintro e w3 ⟨rfl, d3, hM, hw3⟩; have W3 := hid (And.intro hM hw3); clear hM hw3)
                go_end0
                exact ⟨rfl, d3, J.out _ _ M1.out W3.out.1, W3.out.2⟩
          · have q5 : a < s := by omega
            have q4 : ¬ mid < e := by omega
            have W1 := hid (D1.out (fun h => q1 h.1))
            by_cases q3 : s < mid
            · go_wp2_with (go_at_fn 70; refine (C2.out _ W1.out q5 q3).mono ?_; rintro e w2 ⟨rfl, d2, hM, hw2⟩; have W2 := hid (And.intro hM hw2); clear hM hw2)
              go_end0
              exact ⟨rfl, d2, J.out _ _ W2.out.1 (I4.out _ W2.out.1 (by omega)), W2.out.2⟩
            · have M1 := hid (I2.out (by omega))
              go_wp2
              go_end0
              exact ⟨rfl, d1, J.out _ _ M1.out (I4.out _ M1.out (by omega)), W1.out⟩
end Go.Proofs.YtdbpkiddiehliaaGreat
