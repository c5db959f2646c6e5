/- slices.swapRangeCmpFunc and slices.rotateCmpFunc at segment's entries. -/
import Derived.Test.YtdbpkiddiehliaaGreatStable0
import Derived.Outline
namespace Go.Proofs.YtdbpkiddiehliaaGreat
open Go Go.RowKit Go.Sort
variable {P : Program} {k : Nat} {α : Type} [Inhabited α]
set_option maxHeartbeats 4000000 in
set_option maxRecDepth 1000000 in
theorem swapE_ok (L : SE P k) (enc : α → List Value) (blk off cap a b n : Nat) (d0 d : Array α) (w0 w : World) (fv : Value)
    (R : RowK enc k w0 blk off d0) (hs : d0.size = d.size) (S : SWK enc k w0 blk off d w) (hab : a + n ≤ b) (hb : b + n ≤ d.size) (hsz : d.size < 4611686018427387904) :
    Calls P 84 #[.slice (some ⟨blk, off, none⟩) d.size cap, .int .i64 a, .int .i64 b, .int .i64 n, fv] w fun e w' => e = .returned (.tuple #[]) ∧ SWK enc k w0 blk off (swapRange d a b n) w' := by
  have S0 : Aside (SWK enc k w0 blk off d w) := S
  clear S
  have mixed := L.mixed; have t0 := L.t0; have a0 := L.a0; have z0 := L.z0; have v0 := L.v0; have ti := L.ti; have ai := L.ai; have zi := L.zi; have vi := L.vi; have tb := L.tb; have ab := L.ab; have zb := L.zb; have vb := L.vb; have ts := L.ts; have az := L.az; have zs := L.zs; have vs := L.vs; have tf := L.tf; have af := L.af; have zf := L.zf; have vf := L.vf; have aE := L.aE; have zE := L.zE
  go_enter L.f6, Tryz.ntmps84
  go_wp2
  go_loopg [10] n (fun kx s10 wr => ∃ (i : Nat) (dk : Array α), s10 = .int .i64 i ∧ i ≤ n ∧ n - i ≤ kx ∧ dk.size = d.size ∧ Aside (SWK enc k w0 blk off dk wr) ∧ dk = swapRange d a b i)
  case atStart => exact ⟨0, d, rfl, Nat.zero_le _, Nat.le_refl _, rfl, S0, rfl⟩
  case round =>
    clear S0
    obtain ⟨i, dk, rfl, hi, hkx, hds, S1, heq⟩ := hrel
    by_cases hlt : (i : Int) < (n : Int)
    · have HEQ := hid heq
      clear heq
      go_wp2_with fail
      have ea44 : ((a : Int) + (i : Int)).toNat = a + i := by omega
      have pa44 : (0 : Int) ≤ (a : Int) + (i : Int) := by omega
      have ba44 : (a : Int) + (i : Int) < (d.size : Int) := by omega
      have ra44 : IntKind.i64.wrap ((a : Int) + (i : Int)) = (a : Int) + (i : Int) := by rw [IntKind.wrap_i64]; omega
      have ec44 : ((b : Int) + (i : Int)).toNat = b + i := by omega
      have pc44 : (0 : Int) ≤ (b : Int) + (i : Int) := by omega
      have bc44 : (b : Int) + (i : Int) < (d.size : Int) := by omega
      have rc44 : IntKind.i64.wrap ((b : Int) + (i : Int)) = (b : Int) + (i : Int) := by rw [IntKind.wrap_i64]; omega
      have S2 : Aside (SWK enc k w0 blk off (swp dk (a + i) (b + i)) ((wr.drew.setCells blk (off + (a + i) * k) (enc dk[b + i]!)).setCells blk (off + (b + i) * k) (enc dk[a + i]!))) := S1.out.swapped R (a + i) (b + i) (by omega) (by omega)
      have l44a := S1.out.ld1 R (by omega) P (a + i) (by omega)
      have l44b := S1.out.ld1 R (by omega) P (b + i) (by omega)
      have s44a := S1.out.st1 R (by omega) P (a + i) (by omega) dk[b + i]!
      have s44b := S1.out.st2 R (by omega) P (a + i) (b + i) (by omega) (by omega) dk[b + i]! dk[a + i]!
      have n44a : (enc dk[a + i]!).length = k := R.hk _
      have n44b : (enc dk[b + i]!).length = k := R.hk _
      generalize enc dk[a + i]! = cI44 at S2 l44a s44b n44a
      generalize enc dk[b + i]! = cJ44 at S2 l44b s44a s44b n44b
      clear S1
      go_wp2_with fail
      go_big_region_o
      clear l44a l44b s44a s44b
      generalize (wr.drew.setCells blk (off + (a + i) * k) cJ44).setCells blk (off + (b + i) * k) cI44 = w2 at S2 ⊢
      go_wp2
      go_roundg (n - (i + 1))
      case measure => omega
      case rel => exact ⟨i + 1, swp dk (a + i) (b + i), by go_num, by omega, Nat.le_refl _, by rw [size_swp]; exact hds, S2, by rw [swapRange_snoc, HEQ.out]⟩
    · obtain rfl : i = n := by omega
      go_wp2
      go_end0
      exact ⟨rfl, by rw [← heq]; exact S1.out⟩
end Go.Proofs.YtdbpkiddiehliaaGreat
/- slices.rotateCmpFunc at segment's entries. -/
namespace Go.Proofs.YtdbpkiddiehliaaGreat
open Go Go.RowKit Go.Sort
variable {P : Program} {k : Nat} {α : Type} [Inhabited α]
set_option maxHeartbeats 4000000 in
set_option maxRecDepth 1000000 in
theorem rotE_ok (L : SE P k) (enc : α → List Value) (blk off cap a m b : Nat) (d0 d : Array α) (w0 w : World) (fv : Value)
    (R : RowK enc k w0 blk off d0) (hs : d0.size = d.size) (S : SWK enc k w0 blk off d w) (ham : a < m) (hmb : m < b) (hb : b ≤ d.size) (hsz : d.size < 4611686018427387904) :
    Calls P 79 #[.slice (some ⟨blk, off, none⟩) d.size cap, .int .i64 a, .int .i64 m, .int .i64 b, fv] w fun e w' => e = .returned (.tuple #[]) ∧ SWK enc k w0 blk off (rot d a m b) w' := by
  have mixed := L.mixed; have t0 := L.t0; have a0 := L.a0; have z0 := L.z0; have v0 := L.v0; have ti := L.ti; have ai := L.ai; have zi := L.zi; have vi := L.vi; have tb := L.tb; have ab := L.ab; have zb := L.zb; have vb := L.vb; have ts := L.ts; have az := L.az; have zs := L.zs; have vs := L.vs; have tf := L.tf; have af := L.af; have zf := L.zf; have vf := L.vf; have tu := L.tu; have au := L.au; have zu := L.zu; have vu := L.vu; have aE := L.aE; have zE := L.zE
  have S0 : Aside (SWK enc k w0 blk off d w) := S
  clear S
  have e6 : ∀ args w, (callFunc 84 args).run P w = .ok (.enter 84 args) w := enters_of L.f6 rfl rfl
  go_enter L.f5, Tryz.ntmps79
  go_wp2
  go_loopg [10, 11] (b - a) (fun kx s10 s11 wr => ∃ (i j : Nat) (dk : Array α), s10 = .int .i64 i ∧ s11 = .int .i64 j ∧ 1 ≤ i ∧ 1 ≤ j ∧ a + i ≤ m ∧ m + j ≤ b ∧ i + j ≤ kx ∧ dk.size = d.size ∧ Aside (SWK enc k w0 blk off dk wr) ∧ Hid (rot dk (m - i) m (m + j) = rot d a m b))
  case atStart => exact ⟨m - a, b - m, d, by go_num, by go_num, by omega, by omega, by omega, by omega, by omega, rfl, S0, by rw [show m - (m - a) = a by omega, show m + (b - m) = b by omega]; exact hid rfl⟩
  case round =>
    clear S0
    obtain ⟨i, j, dk, rfl, rfl, hi1, hj1, hi, hj, hkx, hds, S1, heq⟩ := hrel
    have e1 : (m : Int) - (i : Int) = ((m - i : Nat) : Int) := by omega
    by_cases hij : i = j
    · subst hij
      have hc := (swapE_ok L enc blk off cap (m - i) m i d0 dk w0 wr fv R (by omega) S1.out (by omega) (by omega) (by omega))
      rw [hds] at hc
      go_wp2_with (go_at_fn 84; refine hc.mono ?_; rintro e w1 ⟨rfl, hw1⟩)
      go_end0
      refine ⟨rfl, ?_⟩
      rw [← heq.out, ← rot_eq dk m i (by omega) (by omega)]
      exact hw1
    · by_cases hlt : j < i
      · have hc := (swapE_ok L enc blk off cap (m - i) m j d0 dk w0 wr fv R (by omega) S1.out (by omega) (by omega) (by omega))
        rw [hds] at hc
        go_wp2_with (go_at_fn 84; refine hc.mono ?_; rintro e w1 ⟨rfl, hw1⟩)
        go_roundg ((i - j) + j)
        case measure => omega
        case rel => exact ⟨i - j, j, _, by go_num, rfl, by omega, hj1, by omega, by omega, Nat.le_refl _, by rw [size_swapRange]; exact hds, hw1, by rw [rot_gt dk m i j hlt (by omega) (by omega)]; exact heq⟩
      · have e2 : (m : Int) + (j : Int) - (i : Int) = ((m + j - i : Nat) : Int) := by omega
        have hc := (swapE_ok L enc blk off cap (m - i) (m + j - i) i d0 dk w0 wr fv R (by omega) S1.out (by omega) (by omega) (by omega))
        rw [hds] at hc
        go_wp2_with (go_at_fn 84; refine hc.mono ?_; rintro e w1 ⟨rfl, hw1⟩)
        go_roundg (i + (j - i))
        case measure => omega
        case rel => exact ⟨i, j - i, _, rfl, by go_num, hi1, by omega, by omega, by omega, Nat.le_refl _, by rw [size_swapRange]; exact hds, hw1, by rw [rot_lt dk m i j (by omega) (by omega) (by omega)]; exact heq⟩
end Go.Proofs.YtdbpkiddiehliaaGreat
/- slices.symMergeCmpFunc at segment's entries, where one side is one element. -/
namespace Go.Proofs.YtdbpkiddiehliaaGreat
open Go Go.RowKit Go.Sort
variable {P : Program} {k : Nat} {α : Type} [Inhabited α]
/-- What a merge leaves in memory. -/
def SymPost (lt : α → α → Bool) (enc : α → List Value) (k : Nat) (w0 : World) (blk off a b : Nat) (d : Array α) (e : Ending) (w' : World) : Prop :=
  e = .returned (.tuple #[]) ∧ ∃ d', Mrg lt a b d d' ∧ SWK enc k w0 blk off d' w'
set_option maxHeartbeats 4000000 in
set_option maxRecDepth 1000000 in
theorem sym_left (L : SE P k) (enc : α → List Value) (cf : α → α → Int) (g : Nat) (cb : Array Value) (blk off cap a m b : Nat) (d0 d : Array α) (w0 w : World)
    (eg : ∀ args w, (callFunc g args).run P w = .ok (.enter g args) w) (hcmp : CmpLays P g cb enc k cf blk off d0.size w0) (R : RowK enc k w0 blk off d0) (hO : SWO (ltOf cf)) (hs : d0.size = d.size) (S : SWK enc k w0 blk off d w)
    (ham : m = a + 1) (hmb : m < b) (hb : b ≤ d.size) (hsz : d.size < 4611686018427387904) (s2 : SortedIn (ltOf cf) m b d) :
    Calls P 70 #[.slice (some ⟨blk, off, none⟩) d.size cap, .int .i64 a, .int .i64 m, .int .i64 b, .func (.func g) #[] cb] w (SymPost (ltOf cf) enc k w0 blk off a b d) := by
  have mixed := L.mixed; have t0 := L.t0; have a0 := L.a0; have z0 := L.z0; have v0 := L.v0; have ti := L.ti; have ai := L.ai; have zi := L.zi; have vi := L.vi; have tb := L.tb; have ab := L.ab; have zb := L.zb; have vb := L.vb; have ts := L.ts; have az := L.az; have zs := L.zs; have vs := L.vs; have tf := L.tf; have af := L.af; have zf := L.zf; have vf := L.vf; have tu := L.tu; have au := L.au; have zu := L.zu; have vu := L.vu; have aE := L.aE; have zE := L.zE
  have HC : Aside _ := hcmp
  have S0 : Aside (SWK enc k w0 blk off d w) := S
  have S2 := hid s2
  have HO := hid hO
  clear S hcmp s2 hO
  have hm1 : m ≤ a + 1 := by omega
  have hm2 : a + 1 ≤ m := by omega
  have HM := hid ham
  clear ham
  have hbq : (((m : Int) - (a : Int)) == 1) = true := by simp; omega
  go_enter L.f4, Tryz.ntmps70
  go_wp2
  go_loopg [10, 11] (b - a) (fun kx s10 s11 wr => ∃ (i j : Nat), s10 = .int .i64 i ∧ s11 = .int .i64 j ∧ m ≤ i ∧ i ≤ j ∧ j ≤ b ∧ j - i ≤ kx ∧ Hid (m < i → ltOf cf d[i - 1]! d[a]! = true) ∧ Hid (j < b → ltOf cf d[j]! d[a]! = false) ∧ Aside (SWK enc k w0 blk off d wr))
  case atStart => exact ⟨m, b, rfl, rfl, Nat.le_refl _, by omega, Nat.le_refl _, by omega, hid (fun h => absurd h (by omega)), hid (fun h => absurd h (by omega)), S0⟩
  case round =>
    clear S0
    obtain ⟨i, j, rfl, rfl, hmi, hij, hjb, hkx, H1, H2, S1⟩ := hrel
    by_cases hlt : i < j
    · obtain ⟨h, hh⟩ : ∃ h, h = (i + j) / 2 := ⟨_, rfl⟩
      have hh2 : ((i : Int) + (j : Int)) / 2 = (h : Int) := by omega
      have hh3 : i ≤ h := by omega
      have hh4 : h < j := by omega
      clear hh
      have ea1 : ((h : Int)).toNat = h := by omega
      have pa1 : (0 : Int) ≤ (h : Int) := by omega
      have ba1 : (h : Int) < (d.size : Int) := by omega
      have ra1 : IntKind.i64.wrap ((h : Int)) = (h : Int) := by rw [IntKind.wrap_i64]; omega
      have ea2 : ((a : Int)).toNat = a := by omega
      have pa2 : (0 : Int) ≤ (a : Int) := by omega
      have ba2 : (a : Int) < (d.size : Int) := by omega
      have ra2 : IntKind.i64.wrap ((a : Int)) = (a : Int) := by rw [IntKind.wrap_i64]; omega
      cases hlv : ltOf cf d[h]! d[a]! with
      | true =>
        obtain ⟨x3, hx3⟩ : ∃ x, x = d[h]! := ⟨_, rfl⟩
        obtain ⟨y3, hy3⟩ : ∃ x, x = d[a]! := ⟨_, rfl⟩
        have l3a := S1.out.ld R (by omega) P (h) (by omega)
        have l3b := S1.out.ld R (by omega) P (a) (by omega)
        rw [← hx3] at l3a
        rw [← hy3] at l3b
        have hc3 := S1.out.cmp HC.out (by omega) x3 y3
        have hd3 : decide (cf x3 y3 < 0) = true := by rw [hx3, hy3]; exact hlv
        have hv3 := hd3
        first | rw [decide_eq_true_eq] at hv3 | rw [decide_eq_false_iff_not] at hv3
        have HLV := hid hlv
        clear hx3 hy3 hlv
        go_wp2_with fail
        go_quiet_grown (first | (go_at_fn g; refine Calls.grown_of (hc3 _ _)))
        have S3 : Aside (SWK enc k w0 blk off d (grow (wr.drewN nq) osq)) := S1.out.grown nq osq
        clear l3a l3b hc3 S1
        generalize grow (wr.drewN nq) osq = w23 at S3 ⊢
        clear nq osq
        go_wp2
        go_roundg (j - (h + 1))
        case measure => omega
        case rel => exact ⟨h + 1, j, by go_num, rfl, by omega, by omega, hjb, Nat.le_refl _, hid (fun _ => HLV.out), H2, S3⟩
      | false =>
        obtain ⟨x4, hx4⟩ : ∃ x, x = d[h]! := ⟨_, rfl⟩
        obtain ⟨y4, hy4⟩ : ∃ x, x = d[a]! := ⟨_, rfl⟩
        have l4a := S1.out.ld R (by omega) P (h) (by omega)
        have l4b := S1.out.ld R (by omega) P (a) (by omega)
        rw [← hx4] at l4a
        rw [← hy4] at l4b
        have hc4 := S1.out.cmp HC.out (by omega) x4 y4
        have hd4 : decide (cf x4 y4 < 0) = false := by rw [hx4, hy4]; exact hlv
        have hv4 := hd4
        first | rw [decide_eq_true_eq] at hv4 | rw [decide_eq_false_iff_not] at hv4
        have HLV := hid hlv
        clear hx4 hy4 hlv
        go_wp2_with fail
        go_quiet_grown (first | (go_at_fn g; refine Calls.grown_of (hc4 _ _)))
        have S3 : Aside (SWK enc k w0 blk off d (grow (wr.drewN nq) osq)) := S1.out.grown nq osq
        clear l4a l4b hc4 S1
        generalize grow (wr.drewN nq) osq = w24 at S3 ⊢
        clear nq osq
        go_wp2
        go_roundg (h - i)
        case measure => omega
        case rel => exact ⟨i, h, rfl, rfl, hmi, by omega, by omega, Nat.le_refl _, H1, hid (fun _ => HLV.out), S3⟩
    · obtain rfl : i = j := by omega
      have hM := Mrg.one_left (lt := ltOf cf) HO.out (a := a) (b := b) (i := i) (d := d) (by omega) hjb hb (HM.out ▸ S2.out) (fun h => H1.out (by omega)) H2.out
      have HMR := hid hM
      clear hM H1 H2
      go_wp2
      go_loopg [13] (i - a) (fun kx s13 wr => ∃ (t : Nat) (dk : Array α), s13 = .int .i64 t ∧ a ≤ t ∧ t + 1 ≤ i ∧ i - t ≤ kx ∧ dk.size = d.size ∧ Hid (dk = rot d a (a + 1) (t + 1)) ∧ Aside (SWK enc k w0 blk off dk wr))
      case atStart => exact ⟨a, d, rfl, Nat.le_refl _, by omega, Nat.le_refl _, rfl, hid (rot_self d a (a + 1) (by omega) (by omega)).symm, S1⟩
      case round =>
        clear S1
        obtain ⟨t, dk, rfl, hat, hti, hkx2, hds, HD, S1⟩ := hrel
        by_cases hlt2 : t + 1 < i
        · have q1 : (t : Int) < (i : Int) - 1 := by omega
          go_wp2_with fail
          have ea5 : ((t : Int)).toNat = t := by omega
          have pa5 : (0 : Int) ≤ (t : Int) := by omega
          have ba5 : (t : Int) < (d.size : Int) := by omega
          have ra5 : IntKind.i64.wrap ((t : Int)) = (t : Int) := by rw [IntKind.wrap_i64]; omega
          have ea6 : ((t : Int) + 1).toNat = t + 1 := by omega
          have pa6 : (0 : Int) ≤ (t : Int) + 1 := by omega
          have ba6 : (t : Int) + 1 < (d.size : Int) := by omega
          have ra6 : IntKind.i64.wrap ((t : Int) + 1) = (t : Int) + 1 := by rw [IntKind.wrap_i64]; omega
          have S3 : Aside (SWK enc k w0 blk off (swp dk (t) (t + 1)) ((wr.drew.setCells blk (off + (t) * k) (enc dk[t + 1]!)).setCells blk (off + (t + 1) * k) (enc dk[t]!))) := S1.out.swapped R (t) (t + 1) (by omega) (by omega)
          have l7a := S1.out.ld1 R (by omega) P (t) (by omega)
          have l7b := S1.out.ld1 R (by omega) P (t + 1) (by omega)
          have s7a := S1.out.st1 R (by omega) P (t) (by omega) dk[t + 1]!
          have s7b := S1.out.st2 R (by omega) P (t) (t + 1) (by omega) (by omega) dk[t + 1]! dk[t]!
          have n7a : (enc dk[t]!).length = k := R.hk _
          have n7b : (enc dk[t + 1]!).length = k := R.hk _
          generalize enc dk[t]! = cI7 at S3 l7a s7b n7a
          generalize enc dk[t + 1]! = cJ7 at S3 l7b s7a s7b n7b
          clear S1
          go_wp2_with fail
          go_big_region_o
          clear l7a l7b s7a s7b
          generalize (wr.drew.setCells blk (off + (t) * k) cJ7).setCells blk (off + (t + 1) * k) cI7 = w27 at S3 ⊢
          go_wp2
          go_roundg (i - (t + 1))
          case measure => omega
          case rel => exact ⟨t + 1, _, by go_num, by omega, by omega, Nat.le_refl _, by rw [size_swp]; exact hds, hid (by rw [HD.out]; exact rot_on d a t hat (by omega)), S3⟩
        · obtain rfl : i = t + 1 := by omega
          have q1 : ¬ (t : Int) < ((t + 1 : Nat) : Int) - 1 := by omega
          go_wp2
          first
          | go_end0
          | ((try simp only [Exit.inBlock, Exit.then]); refine bodyPost_ret (results_none rfl _ _ _) rfl ?_)
          exact ⟨rfl, _, HMR.out, by rw [← HD.out]; exact S1.out⟩
end Go.Proofs.YtdbpkiddiehliaaGreat
/- slices.symMergeCmpFunc at segment's entries, where the right side is one element. -/
namespace Go.Proofs.YtdbpkiddiehliaaGreat
open Go Go.RowKit Go.Sort
variable {P : Program} {k : Nat} {α : Type} [Inhabited α]
set_option maxHeartbeats 4000000 in
set_option maxRecDepth 1000000 in
theorem sym_right (L : SE P k) (enc : α → List Value) (cf : α → α → Int) (g : Nat) (cb : Array Value) (blk off cap a m b : Nat) (d0 d : Array α) (w0 w : World)
    (eg : ∀ args w, (callFunc g args).run P w = .ok (.enter g args) w) (hcmp : CmpLays P g cb enc k cf blk off d0.size w0) (R : RowK enc k w0 blk off d0) (hO : SWO (ltOf cf)) (hs : d0.size = d.size) (S : SWK enc k w0 blk off d w)
    (ham : a + 1 < m) (hmb : b = m + 1) (hb : b ≤ d.size) (hsz : d.size < 4611686018427387904) (s2 : SortedIn (ltOf cf) a m d) :
    Calls P 70 #[.slice (some ⟨blk, off, none⟩) d.size cap, .int .i64 a, .int .i64 m, .int .i64 b, .func (.func g) #[] cb] w (SymPost (ltOf cf) enc k w0 blk off a b d) := by
  have mixed := L.mixed; have t0 := L.t0; have a0 := L.a0; have z0 := L.z0; have v0 := L.v0; have ti := L.ti; have ai := L.ai; have zi := L.zi; have vi := L.vi; have tb := L.tb; have ab := L.ab; have zb := L.zb; have vb := L.vb; have ts := L.ts; have az := L.az; have zs := L.zs; have vs := L.vs; have tf := L.tf; have af := L.af; have zf := L.zf; have vf := L.vf; have tu := L.tu; have au := L.au; have zu := L.zu; have vu := L.vu; have aE := L.aE; have zE := L.zE
  have HC : Aside _ := hcmp
  have S0 : Aside (SWK enc k w0 blk off d w) := S
  have S2 := hid s2
  have HO := hid hO
  clear S hcmp s2 hO
  have hb1 : b ≤ m + 1 := by omega
  have hb2 : m + 1 ≤ b := by omega
  have HB := hid hmb
  clear hmb
  have hbq1 : (((m : Int) - (a : Int)) == 1) = false := by simp; omega
  have hbq : (((b : Int) - (m : Int)) == 1) = true := by simp; omega
  go_enter L.f4, Tryz.ntmps70
  go_wp2
  go_loopg [14, 15] (m - a) (fun kx s14 s15 wr => ∃ (i j : Nat), s14 = .int .i64 i ∧ s15 = .int .i64 j ∧ a ≤ i ∧ i ≤ j ∧ j ≤ m ∧ j - i ≤ kx ∧ Hid (a < i → ltOf cf d[m]! d[i - 1]! = false) ∧ Hid (j < m → ltOf cf d[m]! d[j]! = true) ∧ Aside (SWK enc k w0 blk off d wr))
  case atStart => exact ⟨a, m, rfl, rfl, Nat.le_refl _, by omega, Nat.le_refl _, by omega, hid (fun h => absurd h (by omega)), hid (fun h => absurd h (by omega)), S0⟩
  case round =>
    clear S0
    obtain ⟨i, j, rfl, rfl, hmi, hij, hjb, hkx, H1, H2, S1⟩ := hrel
    by_cases hlt : i < j
    · obtain ⟨h, hh⟩ : ∃ h, h = (i + j) / 2 := ⟨_, rfl⟩
      have hh2 : ((i : Int) + (j : Int)) / 2 = (h : Int) := by omega
      have hh3 : i ≤ h := by omega
      have hh4 : h < j := by omega
      clear hh
      have ea1 : ((h : Int)).toNat = h := by omega
      have pa1 : (0 : Int) ≤ (h : Int) := by omega
      have ba1 : (h : Int) < (d.size : Int) := by omega
      have ra1 : IntKind.i64.wrap ((h : Int)) = (h : Int) := by rw [IntKind.wrap_i64]; omega
      have ea2 : ((m : Int)).toNat = m := by omega
      have pa2 : (0 : Int) ≤ (m : Int) := by omega
      have ba2 : (m : Int) < (d.size : Int) := by omega
      have ra2 : IntKind.i64.wrap ((m : Int)) = (m : Int) := by rw [IntKind.wrap_i64]; omega
      cases hlv : ltOf cf d[m]! d[h]! with
      | false =>
        obtain ⟨x3, hx3⟩ : ∃ x, x = d[m]! := ⟨_, rfl⟩
        obtain ⟨y3, hy3⟩ : ∃ x, x = d[h]! := ⟨_, rfl⟩
        have l3a := S1.out.ld R (by omega) P (m) (by omega)
        have l3b := S1.out.ld R (by omega) P (h) (by omega)
        rw [← hx3] at l3a
        rw [← hy3] at l3b
        have hc3 := S1.out.cmp HC.out (by omega) x3 y3
        have hd3 : decide (cf x3 y3 < 0) = false := by rw [hx3, hy3]; exact hlv
        have hv3 := hd3
        first | rw [decide_eq_true_eq] at hv3 | rw [decide_eq_false_iff_not] at hv3
        have HLV := hid hlv
        clear hx3 hy3 hlv
        go_wp2_with fail
        go_quiet_grown (first | (go_at_fn g; refine Calls.grown_of (hc3 _ _)))
        have S3 : Aside (SWK enc k w0 blk off d (grow (wr.drewN nq) osq)) := S1.out.grown nq osq
        clear l3a l3b hc3 S1
        generalize grow (wr.drewN nq) osq = w23 at S3 ⊢
        clear nq osq
        go_wp2
        go_roundg (j - (h + 1))
        case measure => omega
        case rel => exact ⟨h + 1, j, by go_num, rfl, by omega, by omega, hjb, Nat.le_refl _, hid (fun _ => HLV.out), H2, S3⟩
      | true =>
        obtain ⟨x4, hx4⟩ : ∃ x, x = d[m]! := ⟨_, rfl⟩
        obtain ⟨y4, hy4⟩ : ∃ x, x = d[h]! := ⟨_, rfl⟩
        have l4a := S1.out.ld R (by omega) P (m) (by omega)
        have l4b := S1.out.ld R (by omega) P (h) (by omega)
        rw [← hx4] at l4a
        rw [← hy4] at l4b
        have hc4 := S1.out.cmp HC.out (by omega) x4 y4
        have hd4 : decide (cf x4 y4 < 0) = true := by rw [hx4, hy4]; exact hlv
        have hv4 := hd4
        first | rw [decide_eq_true_eq] at hv4 | rw [decide_eq_false_iff_not] at hv4
        have HLV := hid hlv
        clear hx4 hy4 hlv
        go_wp2_with fail
        go_quiet_grown (first | (go_at_fn g; refine Calls.grown_of (hc4 _ _)))
        have S3 : Aside (SWK enc k w0 blk off d (grow (wr.drewN nq) osq)) := S1.out.grown nq osq
        clear l4a l4b hc4 S1
        generalize grow (wr.drewN nq) osq = w24 at S3 ⊢
        clear nq osq
        go_wp2
        go_roundg (h - i)
        case measure => omega
        case rel => exact ⟨i, h, rfl, rfl, hmi, by omega, by omega, Nat.le_refl _, H1, hid (fun _ => HLV.out), S3⟩
    · obtain rfl : i = j := by omega
      have hM := Mrg.one_right (lt := ltOf cf) HO.out (a := a) (m := m) (i := i) (d := d) (by omega) hjb (by omega) S2.out H1.out H2.out
      have HMR := hid hM
      clear hM H1 H2
      go_wp2
      go_loopg [17] (m - i) (fun kx s17 wr => ∃ (t : Nat) (dk : Array α), s17 = .int .i64 t ∧ i ≤ t ∧ t ≤ m ∧ t - i ≤ kx ∧ dk.size = d.size ∧ Hid (dk = rot d t m (m + 1)) ∧ Aside (SWK enc k w0 blk off dk wr))
      case atStart => exact ⟨m, d, rfl, by omega, Nat.le_refl _, Nat.le_refl _, rfl, hid (rot_self' d m (m + 1) (by omega) (by omega)).symm, S1⟩
      case round =>
        clear S1
        obtain ⟨t, dk, rfl, hat, hti, hkx2, hds, HD, S1⟩ := hrel
        by_cases hlt2 : i < t
        · obtain ⟨u, rfl⟩ : ∃ u, t = u + 1 := ⟨t - 1, by omega⟩
          have q2 : ((u + 1 : Nat) : Int) = (u : Int) + 1 := by omega
          rw [q2]
          clear q2
          have q3 : (i : Int) < (u : Int) + 1 := by omega
          go_wp2_with fail
          have ea5 : ((u : Int) + 1).toNat = u + 1 := by omega
          have pa5 : (0 : Int) ≤ (u : Int) + 1 := by omega
          have ba5 : (u : Int) + 1 < (d.size : Int) := by omega
          have ra5 : IntKind.i64.wrap ((u : Int) + 1) = (u : Int) + 1 := by rw [IntKind.wrap_i64]; omega
          have ea6 : ((u : Int)).toNat = u := by omega
          have pa6 : (0 : Int) ≤ (u : Int) := by omega
          have ba6 : (u : Int) < (d.size : Int) := by omega
          have ra6 : IntKind.i64.wrap ((u : Int)) = (u : Int) := by rw [IntKind.wrap_i64]; omega
          have S3 : Aside (SWK enc k w0 blk off (swp dk (u + 1) (u)) ((wr.drew.setCells blk (off + (u + 1) * k) (enc dk[u]!)).setCells blk (off + (u) * k) (enc dk[u + 1]!))) := S1.out.swapped R (u + 1) (u) (by omega) (by omega)
          have l7a := S1.out.ld1 R (by omega) P (u + 1) (by omega)
          have l7b := S1.out.ld1 R (by omega) P (u) (by omega)
          have s7a := S1.out.st1 R (by omega) P (u + 1) (by omega) dk[u]!
          have s7b := S1.out.st2 R (by omega) P (u + 1) (u) (by omega) (by omega) dk[u]! dk[u + 1]!
          have n7a : (enc dk[u + 1]!).length = k := R.hk _
          have n7b : (enc dk[u]!).length = k := R.hk _
          generalize enc dk[u + 1]! = cI7 at S3 l7a s7b n7a
          generalize enc dk[u]! = cJ7 at S3 l7b s7a s7b n7b
          clear S1
          go_wp2_with fail
          go_big_region_o
          clear l7a l7b s7a s7b
          generalize (wr.drew.setCells blk (off + (u + 1) * k) cJ7).setCells blk (off + (u) * k) cI7 = w27 at S3 ⊢
          go_wp2
          go_roundg (u - i)
          case measure => omega
          case rel => exact ⟨u, _, by go_num, by omega, by omega, Nat.le_refl _, by rw [size_swp]; exact hds, hid (by rw [HD.out]; exact rot_back d m u hti (by omega)), S3⟩
        · obtain rfl : i = t := by omega
          go_wp2
          first
          | go_end0
          | ((try simp only [Exit.inBlock, Exit.then]); refine bodyPost_ret (results_none rfl _ _ _) rfl ?_)
          exact ⟨rfl, rot d i m (m + 1), by rw [HB.out]; exact HMR.out, by rw [← HD.out]; exact S1.out⟩
end Go.Proofs.YtdbpkiddiehliaaGreat
