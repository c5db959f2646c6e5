/- slices.swapRangeCmpFunc and slices.rotateCmpFunc at segment's entries. -/
import Derived.Test.YtpomfegcifpfkaaStable0
import Derived.Outline
import Derived.Deep.CutBlock
import Derived.Deep.DeepCutAuto
namespace Go.Proofs.Ytpomfegcifpfkaa
open Go Go.RowKit Go.Sort
variable {P : Program} {k : Nat} {α : Type} [Inhabited α]
set_option maxHeartbeats 4000000 in
set_option maxRecDepth 1000000 in
theorem swapE_ok (L : SE P k) (enc : α → List Value) (blk off cap a b n : Nat) (d0 d : Array α) (w0 w : World) (fv : Value)
    (R : RowK enc k w0 blk off d0) (hs : d0.size = d.size) (S : SWK enc k w0 blk off d w) (hab : a + n ≤ b) (hb : b + n ≤ d.size) (hsz : d.size < 4611686018427387904) :
    Calls P 72 #[.slice (some ⟨blk, off, none⟩) d.size cap, .int .i64 a, .int .i64 b, .int .i64 n, fv] w fun e w' => e = .returned (.tuple #[]) ∧ SWK enc k w0 blk off (swapRange d a b n) w' := by
  have S0 : Aside (SWK enc k w0 blk off d w) := S
  clear S
  have mixed := L.mixed; have t0 := L.t0; have a0 := L.a0; have z0 := L.z0; have v0 := L.v0; have ti := L.ti; have ai := L.ai; have zi := L.zi; have vi := L.vi; have tb := L.tb; have ab := L.ab; have zb := L.zb; have vb := L.vb; have ts := L.ts; have az := L.az; have zs := L.zs; have vs := L.vs; have tf := L.tf; have af := L.af; have zf := L.zf; have vf := L.vf; have aE := L.aE; have zE := L.zE
  go_enter L.f6, Try.ntmps72
  go_wp2
  go_loopg [10] n (fun kx s10 wr => ∃ (i : Nat) (dk : Array α), s10 = .int .i64 i ∧ i ≤ n ∧ n - i ≤ kx ∧ dk.size = d.size ∧ Aside (SWK enc k w0 blk off dk wr) ∧ dk = swapRange d a b i)
  case atStart => exact ⟨0, d, rfl, Nat.zero_le _, Nat.le_refl _, rfl, S0, rfl⟩
  case round =>
    clear S0
    obtain ⟨i, dk, rfl, hi, hkx, hds, S1, heq⟩ := hrel
    by_cases hlt : (i : Int) < (n : Int)
    · have HEQ := hid heq
      clear heq
      go_wp2_with fail
      have ea44 : ((a : Int) + (i : Int)).toNat = a + i := by omega
      have pa44 : (0 : Int) ≤ (a : Int) + (i : Int) := by omega
      have ba44 : (a : Int) + (i : Int) < (d.size : Int) := by omega
      have ra44 : IntKind.i64.wrap ((a : Int) + (i : Int)) = (a : Int) + (i : Int) := by rw [IntKind.wrap_i64]; omega
      have ec44 : ((b : Int) + (i : Int)).toNat = b + i := by omega
      have pc44 : (0 : Int) ≤ (b : Int) + (i : Int) := by omega
      have bc44 : (b : Int) + (i : Int) < (d.size : Int) := by omega
      have rc44 : IntKind.i64.wrap ((b : Int) + (i : Int)) = (b : Int) + (i : Int) := by rw [IntKind.wrap_i64]; omega
      have S2 : Aside (SWK enc k w0 blk off (swp dk (a + i) (b + i)) ((wr.drew.setCells blk (off + (a + i) * k) (enc dk[b + i]!)).setCells blk (off + (b + i) * k) (enc dk[a + i]!))) := S1.out.swapped R (a + i) (b + i) (by omega) (by omega)
      have l44a := S1.out.ld1 R (by omega) P (a + i) (by omega)
      have l44b := S1.out.ld1 R (by omega) P (b + i) (by omega)
      have s44a := S1.out.st1 R (by omega) P (a + i) (by omega) dk[b + i]!
      have s44b := S1.out.st2 R (by omega) P (a + i) (b + i) (by omega) (by omega) dk[b + i]! dk[a + i]!
      have n44a : (enc dk[a + i]!).length = k := R.hk _
      have n44b : (enc dk[b + i]!).length = k := R.hk _
      generalize enc dk[a + i]! = cI44 at S2 l44a s44b n44a
      generalize enc dk[b + i]! = cJ44 at S2 l44b s44a s44b n44b
      clear S1
      go_wp2_with fail
      go_big_region_o
      clear l44a l44b s44a s44b
      generalize (wr.drew.setCells blk (off + (a + i) * k) cJ44).setCells blk (off + (b + i) * k) cI44 = w2 at S2 ⊢
      go_wp2
      go_roundg (n - (i + 1))
      case measure => omega
      case rel => exact ⟨i + 1, swp dk (a + i) (b + i), by go_num, by omega, Nat.le_refl _, by rw [size_swp]; exact hds, S2, by rw [swapRange_snoc, HEQ.out]⟩
    · obtain rfl : i = n := by omega
      go_wp2
      go_end0
      exact ⟨rfl, by rw [← heq]; exact S1.out⟩
end Go.Proofs.Ytpomfegcifpfkaa
/- slices.rotateCmpFunc at segment's entries. -/
namespace Go.Proofs.Ytpomfegcifpfkaa
open Go Go.RowKit Go.Sort
variable {P : Program} {k : Nat} {α : Type} [Inhabited α]
set_option maxHeartbeats 4000000 in
set_option maxRecDepth 1000000 in
theorem rotE_ok (L : SE P k) (enc : α → List Value) (blk off cap a m b : Nat) (d0 d : Array α) (w0 w : World) (fv : Value)
    (R : RowK enc k w0 blk off d0) (hs : d0.size = d.size) (S : SWK enc k w0 blk off d w) (ham : a < m) (hmb : m < b) (hb : b ≤ d.size) (hsz : d.size < 4611686018427387904) :
    Calls P 68 #[.slice (some ⟨blk, off, none⟩) d.size cap, .int .i64 a, .int .i64 m, .int .i64 b, fv] w fun e w' => e = .returned (.tuple #[]) ∧ SWK enc k w0 blk off (rot d a m b) w' := by
  have mixed := L.mixed; have t0 := L.t0; have a0 := L.a0; have z0 := L.z0; have v0 := L.v0; have ti := L.ti; have ai := L.ai; have zi := L.zi; have vi := L.vi; have tb := L.tb; have ab := L.ab; have zb := L.zb; have vb := L.vb; have ts := L.ts; have az := L.az; have zs := L.zs; have vs := L.vs; have tf := L.tf; have af := L.af; have zf := L.zf; have vf := L.vf; have tu := L.tu; have au := L.au; have zu := L.zu; have vu := L.vu; have aE := L.aE; have zE := L.zE
  have S0 : Aside (SWK enc k w0 blk off d w) := S
  clear S
  have e6 : ∀ args w, (callFunc 72 args).run P w = .ok (.enter 72 args) w := enters_of L.f6 rfl rfl
  go_enter L.f5, Try.ntmps68
  go_wp2
  go_loopg [10, 11] (b - a) (fun kx s10 s11 wr => ∃ (i j : Nat) (dk : Array α), s10 = .int .i64 i ∧ s11 = .int .i64 j ∧ 1 ≤ i ∧ 1 ≤ j ∧ a + i ≤ m ∧ m + j ≤ b ∧ i + j ≤ kx ∧ dk.size = d.size ∧ Aside (SWK enc k w0 blk off dk wr) ∧ Hid (rot dk (m - i) m (m + j) = rot d a m b))
  case atStart => exact ⟨m - a, b - m, d, by go_num, by go_num, by omega, by omega, by omega, by omega, by omega, rfl, S0, by rw [show m - (m - a) = a by omega, show m + (b - m) = b by omega]; exact hid rfl⟩
  case round =>
    clear S0
    obtain ⟨i, j, dk, rfl, rfl, hi1, hj1, hi, hj, hkx, hds, S1, heq⟩ := hrel
    have e1 : (m : Int) - (i : Int) = ((m - i : Nat) : Int) := by omega
    by_cases hij : i = j
    · subst hij
      have hc := (swapE_ok L enc blk off cap (m - i) m i d0 dk w0 wr fv R (by omega) S1.out (by omega) (by omega) (by omega))
      rw [hds] at hc
      go_wp2_with (go_at_fn 72; refine hc.mono ?_; rintro e w1 ⟨rfl, hw1⟩)
      go_end0
      refine ⟨rfl, ?_⟩
      rw [← heq.out, ← rot_eq dk m i (by omega) (by omega)]
      exact hw1
    · by_cases hlt : j < i
      · have hc := (swapE_ok L enc blk off cap (m - i) m j d0 dk w0 wr fv R (by omega) S1.out (by omega) (by omega) (by omega))
        rw [hds] at hc
        go_wp2_with (go_at_fn 72; refine hc.mono ?_; rintro e w1 ⟨rfl, hw1⟩)
        go_roundg ((i - j) + j)
        case measure => omega
        case rel => exact ⟨i - j, j, _, by go_num, rfl, by omega, hj1, by omega, by omega, Nat.le_refl _, by rw [size_swapRange]; exact hds, hw1, by rw [rot_gt dk m i j hlt (by omega) (by omega)]; exact heq⟩
      · have e2 : (m : Int) + (j : Int) - (i : Int) = ((m + j - i : Nat) : Int) := by omega
        have hc := (swapE_ok L enc blk off cap (m - i) (m + j - i) i d0 dk w0 wr fv R (by omega) S1.out (by omega) (by omega) (by omega))
        rw [hds] at hc
        go_wp2_with (go_at_fn 72; refine hc.mono ?_; rintro e w1 ⟨rfl, hw1⟩)
        go_roundg (i + (j - i))
        case measure => omega
        case rel => exact ⟨i, j - i, _, rfl, by go_num, hi1, by omega, by omega, by omega, Nat.le_refl _, by rw [size_swapRange]; exact hds, hw1, by rw [rot_lt dk m i j (by omega) (by omega) (by omega)]; exact heq⟩
end Go.Proofs.Ytpomfegcifpfkaa
/- slices.symMergeCmpFunc at segment's entries, where one side is one element. -/
namespace Go.Proofs.Ytpomfegcifpfkaa
open Go Go.RowKit Go.Sort
variable {P : Program} {k : Nat} {α : Type} [Inhabited α]
/-- What a merge leaves in memory. -/
def SymPost (lt : α → α → Bool) (enc : α → List Value) (k : Nat) (w0 : World) (blk off a b : Nat) (d : Array α) (e : Ending) (w' : World) : Prop :=
  e = .returned (.tuple #[]) ∧ ∃ d', Mrg lt a b d d' ∧ SWK enc k w0 blk off d' w'
set_option maxHeartbeats 4000000 in
set_option maxRecDepth 1000000 in
theorem sym_left (L : SE P k) (enc : α → List Value) (cf : α → α → Int) (g : Nat) (cb : Array Value) (blk off cap a m b : Nat) (d0 d : Array α) (w0 w : World)
    (eg : ∀ args w, (callFunc g args).run P w = .ok (.enter g args) w) (hcmp : CmpLays P g cb enc k cf blk off d0.size w0) (R : RowK enc k w0 blk off d0) (hO : SWO (ltOf cf)) (hs : d0.size = d.size) (S : SWK enc k w0 blk off d w)
    (ham : m = a + 1) (hmb : m < b) (hb : b ≤ d.size) (hsz : d.size < 4611686018427387904) (s2 : SortedIn (ltOf cf) m b d) :
    Calls P 64 #[.slice (some ⟨blk, off, none⟩) d.size cap, .int .i64 a, .int .i64 m, .int .i64 b, .func (.func g) #[] cb] w (SymPost (ltOf cf) enc k w0 blk off a b d) := by
  have mixed := L.mixed; have t0 := L.t0; have a0 := L.a0; have z0 := L.z0; have v0 := L.v0; have ti := L.ti; have ai := L.ai; have zi := L.zi; have vi := L.vi; have tb := L.tb; have ab := L.ab; have zb := L.zb; have vb := L.vb; have ts := L.ts; have az := L.az; have zs := L.zs; have vs := L.vs; have tf := L.tf; have af := L.af; have zf := L.zf; have vf := L.vf; have tu := L.tu; have au := L.au; have zu := L.zu; have vu := L.vu; have aE := L.aE; have zE := L.zE
  have HC : Aside _ := hcmp
  have S0 : Aside (SWK enc k w0 blk off d w) := S
  have S2 := hid s2
  have HO := hid hO
  clear S hcmp s2 hO
  have hm1 : m ≤ a + 1 := by omega
  have hm2 : a + 1 ≤ m := by omega
  have HM := hid ham
  clear ham
  have hbq : (((m : Int) - (a : Int)) == 1) = true := by simp; omega
  go_enter L.f4, Try.ntmps64
  go_wp2
  go_loopg [10, 11] (b - a) (fun kx s10 s11 wr => ∃ (i j : Nat), s10 = .int .i64 i ∧ s11 = .int .i64 j ∧ m ≤ i ∧ i ≤ j ∧ j ≤ b ∧ j - i ≤ kx ∧ Hid (m < i → ltOf cf d[i - 1]! d[a]! = true) ∧ Hid (j < b → ltOf cf d[j]! d[a]! = false) ∧ Aside (SWK enc k w0 blk off d wr))
  case atStart => exact ⟨m, b, rfl, rfl, Nat.le_refl _, by omega, Nat.le_refl _, by omega, hid (fun h => absurd h (by omega)), hid (fun h => absurd h (by omega)), S0⟩
  case round =>
    clear S0
    obtain ⟨i, j, rfl, rfl, hmi, hij, hjb, hkx, H1, H2, S1⟩ := hrel
    by_cases hlt : i < j
    · obtain ⟨h, hh⟩ : ∃ h, h = (i + j) / 2 := ⟨_, rfl⟩
      have hh2 : ((i : Int) + (j : Int)) / 2 = (h : Int) := by omega
      have hh3 : i ≤ h := by omega
      have hh4 : h < j := by omega
      clear hh
      have ea1 : ((h : Int)).toNat = h := by omega
      have pa1 : (0 : Int) ≤ (h : Int) := by omega
      have ba1 : (h : Int) < (d.size : Int) := by omega
      have ra1 : IntKind.i64.wrap ((h : Int)) = (h : Int) := by rw [IntKind.wrap_i64]; omega
      have ea2 : ((a : Int)).toNat = a := by omega
      have pa2 : (0 : Int) ≤ (a : Int) := by omega
      have ba2 : (a : Int) < (d.size : Int) := by omega
      have ra2 : IntKind.i64.wrap ((a : Int)) = (a : Int) := by rw [IntKind.wrap_i64]; omega
      cases hlv : ltOf cf d[h]! d[a]! with
      | true =>
        obtain ⟨x3, hx3⟩ : ∃ x, x = d[h]! := ⟨_, rfl⟩
        obtain ⟨y3, hy3⟩ : ∃ x, x = d[a]! := ⟨_, rfl⟩
        have l3a := S1.out.ld R (by omega) P (h) (by omega)
        have l3b := S1.out.ld R (by omega) P (a) (by omega)
        rw [← hx3] at l3a
        rw [← hy3] at l3b
        have hc3 := S1.out.cmp HC.out (by omega) x3 y3
        have hd3 : decide (cf x3 y3 < 0) = true := by rw [hx3, hy3]; exact hlv
        have hv3 := hd3
        first | rw [decide_eq_true_eq] at hv3 | rw [decide_eq_false_iff_not] at hv3
        have HLV := hid hlv
        clear hx3 hy3 hlv
        go_wp2_with fail
        go_quiet_grown (first | (go_at_fn g; refine Calls.grown_of (hc3 _ _)))
        have S3 : Aside (SWK enc k w0 blk off d (grow (wr.drewN nq) osq)) := S1.out.grown nq osq
        clear l3a l3b hc3 S1
        generalize grow (wr.drewN nq) osq = w23 at S3 ⊢
        clear nq osq
        go_wp2
        go_roundg (j - (h + 1))
        case measure => omega
        case rel => exact ⟨h + 1, j, by go_num, rfl, by omega, by omega, hjb, Nat.le_refl _, hid (fun _ => HLV.out), H2, S3⟩
      | false =>
        obtain ⟨x4, hx4⟩ : ∃ x, x = d[h]! := ⟨_, rfl⟩
        obtain ⟨y4, hy4⟩ : ∃ x, x = d[a]! := ⟨_, rfl⟩
        have l4a := S1.out.ld R (by omega) P (h) (by omega)
        have l4b := S1.out.ld R (by omega) P (a) (by omega)
        rw [← hx4] at l4a
        rw [← hy4] at l4b
        have hc4 := S1.out.cmp HC.out (by omega) x4 y4
        have hd4 : decide (cf x4 y4 < 0) = false := by rw [hx4, hy4]; exact hlv
        have hv4 := hd4
        first | rw [decide_eq_true_eq] at hv4 | rw [decide_eq_false_iff_not] at hv4
        have HLV := hid hlv
        clear hx4 hy4 hlv
        go_wp2_with fail
        go_quiet_grown (first | (go_at_fn g; refine Calls.grown_of (hc4 _ _)))
        have S3 : Aside (SWK enc k w0 blk off d (grow (wr.drewN nq) osq)) := S1.out.grown nq osq
        clear l4a l4b hc4 S1
        generalize grow (wr.drewN nq) osq = w24 at S3 ⊢
        clear nq osq
        go_wp2
        go_roundg (h - i)
        case measure => omega
        case rel => exact ⟨i, h, rfl, rfl, hmi, by omega, by omega, Nat.le_refl _, H1, hid (fun _ => HLV.out), S3⟩
    · obtain rfl : i = j := by omega
      have hM := Mrg.one_left (lt := ltOf cf) HO.out (a := a) (b := b) (i := i) (d := d) (by omega) hjb hb (HM.out ▸ S2.out) (fun h => H1.out (by omega)) H2.out
      have HMR := hid hM
      clear hM H1 H2
      go_wp2
      go_loopg [13] (i - a) (fun kx s13 wr => ∃ (t : Nat) (dk : Array α), s13 = .int .i64 t ∧ a ≤ t ∧ t + 1 ≤ i ∧ i - t ≤ kx ∧ dk.size = d.size ∧ Hid (dk = rot d a (a + 1) (t + 1)) ∧ Aside (SWK enc k w0 blk off dk wr))
      case atStart => exact ⟨a, d, rfl, Nat.le_refl _, by omega, Nat.le_refl _, rfl, hid (rot_self d a (a + 1) (by omega) (by omega)).symm, S1⟩
      case round =>
        clear S1
        obtain ⟨t, dk, rfl, hat, hti, hkx2, hds, HD, S1⟩ := hrel
        by_cases hlt2 : t + 1 < i
        · have q1 : (t : Int) < (i : Int) - 1 := by omega
          go_wp2_with fail
          have ea5 : ((t : Int)).toNat = t := by omega
          have pa5 : (0 : Int) ≤ (t : Int) := by omega
          have ba5 : (t : Int) < (d.size : Int) := by omega
          have ra5 : IntKind.i64.wrap ((t : Int)) = (t : Int) := by rw [IntKind.wrap_i64]; omega
          have ea6 : ((t : Int) + 1).toNat = t + 1 := by omega
          have pa6 : (0 : Int) ≤ (t : Int) + 1 := by omega
          have ba6 : (t : Int) + 1 < (d.size : Int) := by omega
          have ra6 : IntKind.i64.wrap ((t : Int) + 1) = (t : Int) + 1 := by rw [IntKind.wrap_i64]; omega
          have S3 : Aside (SWK enc k w0 blk off (swp dk (t) (t + 1)) ((wr.drew.setCells blk (off + (t) * k) (enc dk[t + 1]!)).setCells blk (off + (t + 1) * k) (enc dk[t]!))) := S1.out.swapped R (t) (t + 1) (by omega) (by omega)
          have l7a := S1.out.ld1 R (by omega) P (t) (by omega)
          have l7b := S1.out.ld1 R (by omega) P (t + 1) (by omega)
          have s7a := S1.out.st1 R (by omega) P (t) (by omega) dk[t + 1]!
          have s7b := S1.out.st2 R (by omega) P (t) (t + 1) (by omega) (by omega) dk[t + 1]! dk[t]!
          have n7a : (enc dk[t]!).length = k := R.hk _
          have n7b : (enc dk[t + 1]!).length = k := R.hk _
          generalize enc dk[t]! = cI7 at S3 l7a s7b n7a
          generalize enc dk[t + 1]! = cJ7 at S3 l7b s7a s7b n7b
          clear S1
          go_wp2_with fail
          go_big_region_o
          clear l7a l7b s7a s7b
          generalize (wr.drew.setCells blk (off + (t) * k) cJ7).setCells blk (off + (t + 1) * k) cI7 = w27 at S3 ⊢
          go_wp2
          go_roundg (i - (t + 1))
          case measure => omega
          case rel => exact ⟨t + 1, _, by go_num, by omega, by omega, Nat.le_refl _, by rw [size_swp]; exact hds, hid (by rw [HD.out]; exact rot_on d a t hat (by omega)), S3⟩
        · obtain rfl : i = t + 1 := by omega
          have q1 : ¬ (t : Int) < ((t + 1 : Nat) : Int) - 1 := by omega
          go_wp2
          first
          | go_end0
          | ((try simp only [Exit.inBlock, Exit.then]); refine bodyPost_ret (results_none rfl _ _ _) rfl ?_)
          exact ⟨rfl, _, HMR.out, by rw [← HD.out]; exact S1.out⟩
end Go.Proofs.Ytpomfegcifpfkaa
/- slices.symMergeCmpFunc at segment's entries, where the right side is one element. -/
namespace Go.Proofs.Ytpomfegcifpfkaa
open Go Go.RowKit Go.Sort
variable {P : Program} {k : Nat} {α : Type} [Inhabited α]
set_option maxHeartbeats 4000000 in
set_option maxRecDepth 1000000 in
theorem sym_right (L : SE P k) (enc : α → List Value) (cf : α → α → Int) (g : Nat) (cb : Array Value) (blk off cap a m b : Nat) (d0 d : Array α) (w0 w : World)
    (eg : ∀ args w, (callFunc g args).run P w = .ok (.enter g args) w) (hcmp : CmpLays P g cb enc k cf blk off d0.size w0) (R : RowK enc k w0 blk off d0) (hO : SWO (ltOf cf)) (hs : d0.size = d.size) (S : SWK enc k w0 blk off d w)
    (ham : a + 1 < m) (hmb : b = m + 1) (hb : b ≤ d.size) (hsz : d.size < 4611686018427387904) (s2 : SortedIn (ltOf cf) a m d) :
    Calls P 64 #[.slice (some ⟨blk, off, none⟩) d.size cap, .int .i64 a, .int .i64 m, .int .i64 b, .func (.func g) #[] cb] w (SymPost (ltOf cf) enc k w0 blk off a b d) := by
  have mixed := L.mixed; have t0 := L.t0; have a0 := L.a0; have z0 := L.z0; have v0 := L.v0; have ti := L.ti; have ai := L.ai; have zi := L.zi; have vi := L.vi; have tb := L.tb; have ab := L.ab; have zb := L.zb; have vb := L.vb; have ts := L.ts; have az := L.az; have zs := L.zs; have vs := L.vs; have tf := L.tf; have af := L.af; have zf := L.zf; have vf := L.vf; have tu := L.tu; have au := L.au; have zu := L.zu; have vu := L.vu; have aE := L.aE; have zE := L.zE
  have HC : Aside _ := hcmp
  have S0 : Aside (SWK enc k w0 blk off d w) := S
  have S2 := hid s2
  have HO := hid hO
  clear S hcmp s2 hO
  have hb1 : b ≤ m + 1 := by omega
  have hb2 : m + 1 ≤ b := by omega
  have HB := hid hmb
  clear hmb
  have hbq1 : (((m : Int) - (a : Int)) == 1) = false := by simp; omega
  have hbq : (((b : Int) - (m : Int)) == 1) = true := by simp; omega
  go_enter L.f4, Try.ntmps64
  go_wp2
  go_loopg [14, 15] (m - a) (fun kx s14 s15 wr => ∃ (i j : Nat), s14 = .int .i64 i ∧ s15 = .int .i64 j ∧ a ≤ i ∧ i ≤ j ∧ j ≤ m ∧ j - i ≤ kx ∧ Hid (a < i → ltOf cf d[m]! d[i - 1]! = false) ∧ Hid (j < m → ltOf cf d[m]! d[j]! = true) ∧ Aside (SWK enc k w0 blk off d wr))
  case atStart => exact ⟨a, m, rfl, rfl, Nat.le_refl _, by omega, Nat.le_refl _, by omega, hid (fun h => absurd h (by omega)), hid (fun h => absurd h (by omega)), S0⟩
  case round =>
    clear S0
    obtain ⟨i, j, rfl, rfl, hmi, hij, hjb, hkx, H1, H2, S1⟩ := hrel
    by_cases hlt : i < j
    · obtain ⟨h, hh⟩ : ∃ h, h = (i + j) / 2 := ⟨_, rfl⟩
      have hh2 : ((i : Int) + (j : Int)) / 2 = (h : Int) := by omega
      have hh3 : i ≤ h := by omega
      have hh4 : h < j := by omega
      clear hh
      have ea1 : ((h : Int)).toNat = h := by omega
      have pa1 : (0 : Int) ≤ (h : Int) := by omega
      have ba1 : (h : Int) < (d.size : Int) := by omega
      have ra1 : IntKind.i64.wrap ((h : Int)) = (h : Int) := by rw [IntKind.wrap_i64]; omega
      have ea2 : ((m : Int)).toNat = m := by omega
      have pa2 : (0 : Int) ≤ (m : Int) := by omega
      have ba2 : (m : Int) < (d.size : Int) := by omega
      have ra2 : IntKind.i64.wrap ((m : Int)) = (m : Int) := by rw [IntKind.wrap_i64]; omega
      cases hlv : ltOf cf d[m]! d[h]! with
      | false =>
        obtain ⟨x3, hx3⟩ : ∃ x, x = d[m]! := ⟨_, rfl⟩
        obtain ⟨y3, hy3⟩ : ∃ x, x = d[h]! := ⟨_, rfl⟩
        have l3a := S1.out.ld R (by omega) P (m) (by omega)
        have l3b := S1.out.ld R (by omega) P (h) (by omega)
        rw [← hx3] at l3a
        rw [← hy3] at l3b
        have hc3 := S1.out.cmp HC.out (by omega) x3 y3
        have hd3 : decide (cf x3 y3 < 0) = false := by rw [hx3, hy3]; exact hlv
        have hv3 := hd3
        first | rw [decide_eq_true_eq] at hv3 | rw [decide_eq_false_iff_not] at hv3
        have HLV := hid hlv
        clear hx3 hy3 hlv
        go_wp2_with fail
        go_quiet_grown (first | (go_at_fn g; refine Calls.grown_of (hc3 _ _)))
        have S3 : Aside (SWK enc k w0 blk off d (grow (wr.drewN nq) osq)) := S1.out.grown nq osq
        clear l3a l3b hc3 S1
        generalize grow (wr.drewN nq) osq = w23 at S3 ⊢
        clear nq osq
        go_wp2
        go_roundg (j - (h + 1))
        case measure => omega
        case rel => exact ⟨h + 1, j, by go_num, rfl, by omega, by omega, hjb, Nat.le_refl _, hid (fun _ => HLV.out), H2, S3⟩
      | true =>
        obtain ⟨x4, hx4⟩ : ∃ x, x = d[m]! := ⟨_, rfl⟩
        obtain ⟨y4, hy4⟩ : ∃ x, x = d[h]! := ⟨_, rfl⟩
        have l4a := S1.out.ld R (by omega) P (m) (by omega)
        have l4b := S1.out.ld R (by omega) P (h) (by omega)
        rw [← hx4] at l4a
        rw [← hy4] at l4b
        have hc4 := S1.out.cmp HC.out (by omega) x4 y4
        have hd4 : decide (cf x4 y4 < 0) = true := by rw [hx4, hy4]; exact hlv
        have hv4 := hd4
        first | rw [decide_eq_true_eq] at hv4 | rw [decide_eq_false_iff_not] at hv4
        have HLV := hid hlv
        clear hx4 hy4 hlv
        go_wp2_with fail
        go_quiet_grown (first | (go_at_fn g; refine Calls.grown_of (hc4 _ _)))
        have S3 : Aside (SWK enc k w0 blk off d (grow (wr.drewN nq) osq)) := S1.out.grown nq osq
        clear l4a l4b hc4 S1
        generalize grow (wr.drewN nq) osq = w24 at S3 ⊢
        clear nq osq
        go_wp2
        go_roundg (h - i)
        case measure => omega
        case rel => exact ⟨i, h, rfl, rfl, hmi, by omega, by omega, Nat.le_refl _, H1, hid (fun _ => HLV.out), S3⟩
    · obtain rfl : i = j := by omega
      have hM := Mrg.one_right (lt := ltOf cf) HO.out (a := a) (m := m) (i := i) (d := d) (by omega) hjb (by omega) S2.out H1.out H2.out
      have HMR := hid hM
      clear hM H1 H2
      go_wp2
      go_loopg [17] (m - i) (fun kx s17 wr => ∃ (t : Nat) (dk : Array α), s17 = .int .i64 t ∧ i ≤ t ∧ t ≤ m ∧ t - i ≤ kx ∧ dk.size = d.size ∧ Hid (dk = rot d t m (m + 1)) ∧ Aside (SWK enc k w0 blk off dk wr))
      case atStart => exact ⟨m, d, rfl, by omega, Nat.le_refl _, Nat.le_refl _, rfl, hid (rot_self' d m (m + 1) (by omega) (by omega)).symm, S1⟩
      case round =>
        clear S1
        obtain ⟨t, dk, rfl, hat, hti, hkx2, hds, HD, S1⟩ := hrel
        by_cases hlt2 : i < t
        · obtain ⟨u, rfl⟩ : ∃ u, t = u + 1 := ⟨t - 1, by omega⟩
          have q2 : ((u + 1 : Nat) : Int) = (u : Int) + 1 := by omega
          rw [q2]
          clear q2
          have q3 : (i : Int) < (u : Int) + 1 := by omega
          go_wp2_with fail
          have ea5 : ((u : Int) + 1).toNat = u + 1 := by omega
          have pa5 : (0 : Int) ≤ (u : Int) + 1 := by omega
          have ba5 : (u : Int) + 1 < (d.size : Int) := by omega
          have ra5 : IntKind.i64.wrap ((u : Int) + 1) = (u : Int) + 1 := by rw [IntKind.wrap_i64]; omega
          have ea6 : ((u : Int)).toNat = u := by omega
          have pa6 : (0 : Int) ≤ (u : Int) := by omega
          have ba6 : (u : Int) < (d.size : Int) := by omega
          have ra6 : IntKind.i64.wrap ((u : Int)) = (u : Int) := by rw [IntKind.wrap_i64]; omega
          have S3 : Aside (SWK enc k w0 blk off (swp dk (u + 1) (u)) ((wr.drew.setCells blk (off + (u + 1) * k) (enc dk[u]!)).setCells blk (off + (u) * k) (enc dk[u + 1]!))) := S1.out.swapped R (u + 1) (u) (by omega) (by omega)
          have l7a := S1.out.ld1 R (by omega) P (u + 1) (by omega)
          have l7b := S1.out.ld1 R (by omega) P (u) (by omega)
          have s7a := S1.out.st1 R (by omega) P (u + 1) (by omega) dk[u]!
          have s7b := S1.out.st2 R (by omega) P (u + 1) (u) (by omega) (by omega) dk[u]! dk[u + 1]!
          have n7a : (enc dk[u + 1]!).length = k := R.hk _
          have n7b : (enc dk[u]!).length = k := R.hk _
          generalize enc dk[u + 1]! = cI7 at S3 l7a s7b n7a
          generalize enc dk[u]! = cJ7 at S3 l7b s7a s7b n7b
          clear S1
          go_wp2_with fail
          go_big_region_o
          clear l7a l7b s7a s7b
          generalize (wr.drew.setCells blk (off + (u + 1) * k) cJ7).setCells blk (off + (u) * k) cI7 = w27 at S3 ⊢
          go_wp2
          go_roundg (u - i)
          case measure => omega
          case rel => exact ⟨u, _, by go_num, by omega, by omega, Nat.le_refl _, by rw [size_swp]; exact hds, hid (by rw [HD.out]; exact rot_back d m u hti (by omega)), S3⟩
        · obtain rfl : i = t := by omega
          go_wp2
          first
          | go_end0
          | ((try simp only [Exit.inBlock, Exit.then]); refine bodyPost_ret (results_none rfl _ _ _) rfl ?_)
          exact ⟨rfl, rot d i m (m + 1), by rw [HB.out]; exact HMR.out, by rw [← HD.out]; exact S1.out⟩
end Go.Proofs.Ytpomfegcifpfkaa
/- slices.symMergeCmpFunc at segment's entries, whole. -/
namespace Go.Proofs.Ytpomfegcifpfkaa
open Go Go.RowKit Go.Sort
variable {P : Program} {k : Nat} {α : Type} [Inhabited α]
/-- A merge has been done. -/
def AfterS (lt : α → α → Bool) (enc : α → List Value) (k : Nat) (w0 : World) (blk off a b : Nat) (d : Array α) (w' : World) : Prop := ∃ d', Mrg lt a b d d' ∧ SWK enc k w0 blk off d' w'
set_option maxHeartbeats 8000000 in
set_option maxRecDepth 1000000 in
theorem symE_ok (L : SE P k) (enc : α → List Value) (cf : α → α → Int) (g : Nat) (cb : Array Value) (blk off cap : Nat) (d0 : Array α) (w0 : World)
    (eg : ∀ args w, (callFunc g args).run P w = .ok (.enter g args) w) (hcmp : CmpLays P g cb enc k cf blk off d0.size w0) (R : RowK enc k w0 blk off d0) (hO : SWO (ltOf cf)) :
    ∀ (N a m b : Nat) (d : Array α) (w : World), b - a < N → d0.size = d.size → SWK enc k w0 blk off d w → a < m → m < b → b ≤ d.size → d.size < 4611686018427387904 → SortedIn (ltOf cf) a m d → SortedIn (ltOf cf) m b d →
    Calls P 64 #[.slice (some ⟨blk, off, none⟩) d.size cap, .int .i64 a, .int .i64 m, .int .i64 b, .func (.func g) #[] cb] w (SymPost (ltOf cf) enc k w0 blk off a b d) := by
  intro N
  induction N with
  | zero => intro _ _ _ _ _ h; exact absurd h (Nat.not_lt_zero _)
  | succ N ih =>
    intro a m b d w hN hs S ham hmb hb hsz s1 s2
    by_cases c1 : m = a + 1
    · exact sym_left L enc cf g cb blk off cap a m b d0 d w0 w eg hcmp R hO hs S c1 hmb hb hsz s2
    by_cases c2 : b = m + 1
    · exact sym_right L enc cf g cb blk off cap a m b d0 d w0 w eg hcmp R hO hs S (by omega) c2 hb hsz s1
    have mixed := L.mixed; have t0 := L.t0; have a0 := L.a0; have z0 := L.z0; have v0 := L.v0; have ti := L.ti; have ai := L.ai; have zi := L.zi; have vi := L.vi; have tb := L.tb; have ab := L.ab; have zb := L.zb; have vb := L.vb; have ts := L.ts; have az := L.az; have zs := L.zs; have vs := L.vs; have tf := L.tf; have af := L.af; have zf := L.zf; have vf := L.vf; have tu := L.tu; have au := L.au; have zu := L.zu; have vu := L.vu; have aE := L.aE; have zE := L.zE
    have HC : Aside _ := hcmp
    have S0 : Aside (SWK enc k w0 blk off d w) := S
    have S12 := hid (And.intro s1 s2)
    have HO := hid hO
    have IH : Aside _ := ih
    have e5 : ∀ args w, (callFunc 68 args).run P w = .ok (.enter 68 args) w := enters_of L.f5 rfl rfl
    have e4 : ∀ args w, (callFunc 64 args).run P w = .ok (.enter 64 args) w := enters_of L.f4 rfl rfl
    clear S hcmp s1 s2 hO ih
    have hbq1 : (((m : Int) - (a : Int)) == 1) = false := by simp; omega
    have hbq : (((b : Int) - (m : Int)) == 1) = false := by simp; omega
    obtain ⟨mid, hmid⟩ : ∃ mid, mid = (a + b) / 2 := ⟨_, rfl⟩
    have hm2 : ((a : Int) + (b : Int)) / 2 = (mid : Int) := by omega
    have hm3 : a < mid := by omega
    have hm4 : mid < b := by omega
    have hm5 : a + b ≤ 2 * mid + 1 := by omega
    have hm6 : 2 * mid ≤ a + b := by omega
    have HMID := hid hmid
    clear hmid c1 c2
    obtain ⟨lo, hi, hlh⟩ : ∃ lo hi, if mid < m then lo = mid + m - b ∧ hi = mid else lo = a ∧ hi = m := by
      by_cases h : mid < m
      · exact ⟨_, _, by rw [if_pos h]; exact ⟨rfl, rfl⟩⟩
      · exact ⟨_, _, by rw [if_neg h]; exact ⟨rfl, rfl⟩⟩
    have hl1 : lo ≤ hi := by by_cases h : mid < m <;> simp only [h, if_true, if_false] at hlh <;> omega
    have hl2 : a ≤ lo := by by_cases h : mid < m <;> simp only [h, if_true, if_false] at hlh <;> omega
    have hl3 : hi ≤ mid := by by_cases h : mid < m <;> simp only [h, if_true, if_false] at hlh <;> omega
    have hl4 : hi ≤ m := by by_cases h : mid < m <;> simp only [h, if_true, if_false] at hlh <;> omega
    have hl5 : mid + m ≤ b + lo := by by_cases h : mid < m <;> simp only [h, if_true, if_false] at hlh <;> omega
    have HLH := hid hlh
    clear hlh
    go_enter L.f4, Try.ntmps64
    go_upto_if 140 with fail
    go_cut [20, 21] from 25 (fun s20 s21 wc => s20 = .int .i64 lo ∧ s21 = .int .i64 hi ∧ Aside (SWK enc k w0 blk off d wc))
    case first =>
      have hlh := HLH.out
      by_cases h : mid < m
      · rw [if_pos h] at hlh
        have e1 : (mid : Int) + (m : Int) - (b : Int) = (lo : Int) := by omega
        have e2 : (mid : Int) = (hi : Int) := by omega
        have E2 := hid e2
        clear e2 hlh
        go_wp2_with fail
        go_meet
        case rel => exact ⟨rfl, by rw [E2.out], S0⟩
      · rw [if_neg h] at hlh
        obtain ⟨rfl, rfl⟩ := hlh
        go_wp2_with fail
        go_meet
        case rel => exact ⟨rfl, rfl, S0⟩
    case rest =>
      clear S0
      obtain ⟨rfl, rfl, S0⟩ := hcut
      go_wp2
      go_loopg [20, 21] (hi - lo) (fun kx s20 s21 wr => ∃ (s r : Nat), s20 = .int .i64 s ∧ s21 = .int .i64 r ∧ lo ≤ s ∧ s ≤ r ∧ r ≤ hi ∧ r - s ≤ kx ∧ Hid (lo < s → ltOf cf d[mid + m - s]! d[s - 1]! = false) ∧ Hid (r < hi → ltOf cf d[mid + m - 1 - r]! d[r]! = true) ∧ Aside (SWK enc k w0 blk off d wr))
      case atStart => exact ⟨lo, hi, rfl, rfl, Nat.le_refl _, hl1, Nat.le_refl _, Nat.le_refl _, hid (fun h => absurd h (by omega)), hid (fun h => absurd h (by omega)), S0⟩
      case round =>
        clear S0
        obtain ⟨s, r, rfl, rfl, hls, hsr, hrh, hkx, H1, H2, S1⟩ := hrel
        by_cases hlt : s < r
        · obtain ⟨c, hh⟩ : ∃ c, c = (s + r) / 2 := ⟨_, rfl⟩
          have hh2 : ((s : Int) + (r : Int)) / 2 = (c : Int) := by omega
          have hh3 : s ≤ c := by omega
          have hh4 : c < r := by omega
          clear hh
          obtain ⟨q, hq⟩ : ∃ q, q = mid + m - 1 - c := ⟨_, rfl⟩
          have hq2 : (mid : Int) + (m : Int) - 1 - (c : Int) = (q : Int) := by omega
          have HQ := hid hq
          have hq3 : q < d.size := by omega
          clear hq
          have ea1 : ((q : Int)).toNat = q := by omega
          have pa1 : (0 : Int) ≤ (q : Int) := by omega
          have ba1 : (q : Int) < (d.size : Int) := by omega
          have ra1 : IntKind.i64.wrap ((q : Int)) = (q : Int) := by rw [IntKind.wrap_i64]; omega
          have ea2 : ((c : Int)).toNat = c := by omega
          have pa2 : (0 : Int) ≤ (c : Int) := by omega
          have ba2 : (c : Int) < (d.size : Int) := by omega
          have ra2 : IntKind.i64.wrap ((c : Int)) = (c : Int) := by rw [IntKind.wrap_i64]; omega
          cases hlv : ltOf cf d[q]! d[c]! with
          | false =>
            obtain ⟨x3, hx3⟩ : ∃ x, x = d[q]! := ⟨_, rfl⟩
            obtain ⟨y3, hy3⟩ : ∃ x, x = d[c]! := ⟨_, rfl⟩
            have l3a := S1.out.ld R (by omega) P (q) (by omega)
            have l3b := S1.out.ld R (by omega) P (c) (by omega)
            rw [← hx3] at l3a
            rw [← hy3] at l3b
            have hc3 := S1.out.cmp HC.out (by omega) x3 y3
            have hd3 : decide (cf x3 y3 < 0) = false := by rw [hx3, hy3]; exact hlv
            have hv3 := hd3
            first | rw [decide_eq_true_eq] at hv3 | rw [decide_eq_false_iff_not] at hv3
            have HLV := hid hlv
            clear hx3 hy3 hlv
            go_wp2_with fail
            go_quiet_grown (first | (go_at_fn g; refine Calls.grown_of (hc3 _ _)))
            have S3 : Aside (SWK enc k w0 blk off d (grow (wr.drewN nq) osq)) := S1.out.grown nq osq
            clear l3a l3b hc3 S1
            generalize grow (wr.drewN nq) osq = w23 at S3 ⊢
            clear nq osq
            go_wp2
            go_roundg (r - (c + 1))
            case measure => omega
            case rel => exact ⟨c + 1, r, by go_num, rfl, by omega, by omega, hrh, Nat.le_refl _, hid (fun _ => by rw [show mid + m - (c + 1) = q by have := HQ.out; omega]; exact HLV.out), H2, S3⟩
          | true =>
            obtain ⟨x4, hx4⟩ : ∃ x, x = d[q]! := ⟨_, rfl⟩
            obtain ⟨y4, hy4⟩ : ∃ x, x = d[c]! := ⟨_, rfl⟩
            have l4a := S1.out.ld R (by omega) P (q) (by omega)
            have l4b := S1.out.ld R (by omega) P (c) (by omega)
            rw [← hx4] at l4a
            rw [← hy4] at l4b
            have hc4 := S1.out.cmp HC.out (by omega) x4 y4
            have hd4 : decide (cf x4 y4 < 0) = true := by rw [hx4, hy4]; exact hlv
            have hv4 := hd4
            first | rw [decide_eq_true_eq] at hv4 | rw [decide_eq_false_iff_not] at hv4
            have HLV := hid hlv
            clear hx4 hy4 hlv
            go_wp2_with fail
            go_quiet_grown (first | (go_at_fn g; refine Calls.grown_of (hc4 _ _)))
            have S3 : Aside (SWK enc k w0 blk off d (grow (wr.drewN nq) osq)) := S1.out.grown nq osq
            clear l4a l4b hc4 S1
            generalize grow (wr.drewN nq) osq = w24 at S3 ⊢
            clear nq osq
            go_wp2
            go_roundg (c - s)
            case measure => omega
            case rel => exact ⟨s, c, rfl, rfl, hls, by omega, by omega, Nat.le_refl _, H1, hid (fun _ => by rw [← HQ.out]; exact HLV.out), S3⟩
        · obtain rfl : s = r := by omega
          obtain ⟨e, he⟩ : ∃ e, e = mid + m - s := ⟨_, rfl⟩
          have he2 : (mid : Int) + (m : Int) - (s : Int) = (e : Int) := by omega
          have he3 : m ≤ e := by omega
          have he4 : e ≤ b := by omega
          have he5 : s + (e - m) = mid := by omega
          have hcut := Cut.of_search (lt := ltOf cf) HO.out ham hmb hb S12.out.1 S12.out.2 (s := s) (lo := lo) (hi := hi) (by rw [← HMID.out]; exact HLH.out) hls hrh (by rw [← HMID.out]; exact H1.out) (by rw [← HMID.out]; exact H2.out)
          rw [← HMID.out, ← he] at hcut
          have hC := Cut.turned HO.out hcut he5
          have hdd : ¬ (s < m ∧ m < e) → rot d s m e = d := fun hn => by
            by_cases q : s < m
            · obtain rfl : e = m := by omega
              exact rot_self d s e (by omega) (by omega)
            · obtain rfl : s = m := by omega
              exact rot_self' d s e he3 (by omega)
          have hz1 := hC.size
          have HCC := hid hC
          have HDD := hid hdd
          clear hC hcut hdd he H1 H2
          obtain ⟨d1, hd1⟩ : ∃ d1, d1 = rot d s m e := ⟨_, rfl⟩
          rw [← hd1] at HCC hz1
          have HD1 := hid hd1
          clear hd1
          have hc1 : s < m → m < e → Calls P 68 #[.slice (some ⟨blk, off, none⟩) d.size cap, .int .i64 s, .int .i64 m, .int .i64 e, .func (.func g) #[] cb] wr fun e w' => e = .returned (.tuple #[]) ∧ SWK enc k w0 blk off d1 w' := fun q1 q2 => by
            rw [HD1.out]; exact rotE_ok L enc blk off cap s m e d0 d w0 wr (.func (.func g) #[] cb) R hs S1.out q1 q2 (by omega) hsz
          have hd1 : ¬ (s < m ∧ m < e) → SWK enc k w0 blk off d1 wr := fun h => by rw [HD1.out, HDD.out h]; exact S1.out
          have hc2 : ∀ W, SWK enc k w0 blk off d1 W → a < s → s < mid → Calls P 64 #[.slice (some ⟨blk, off, none⟩) d.size cap, .int .i64 a, .int .i64 s, .int .i64 mid, .func (.func g) #[] cb] W (SymPost (ltOf cf) enc k w0 blk off a mid d1) := fun W hW q1 q2 => by
            have := IH.out a s mid d1 W (by omega) (by omega) hW q1 q2 (by omega) (by omega) HCC.out.s1 HCC.out.s2
            rwa [hz1] at this
          have hc3 : ∀ W d2, Mrg (ltOf cf) a mid d1 d2 → SWK enc k w0 blk off d2 W → mid < e → e < b → Calls P 64 #[.slice (some ⟨blk, off, none⟩) d.size cap, .int .i64 mid, .int .i64 e, .int .i64 b, .func (.func g) #[] cb] W (SymPost (ltOf cf) enc k w0 blk off mid b d2) := fun W d2 hM1 hW q1 q2 => by
            have hs3 : SortedIn (ltOf cf) mid e d2 := fun i j h1 h2 h3 => by rw [hM1.out i (by omega), hM1.out j (by omega)]; exact HCC.out.s3 i j h1 h2 h3
            have hs4 : SortedIn (ltOf cf) e b d2 := fun i j h1 h2 h3 => by rw [hM1.out i (by omega), hM1.out j (by omega)]; exact HCC.out.s4 i j h1 h2 h3
            have := IH.out mid e b d2 W (by omega) (by have := hM1.size; omega) hW q1 q2 (by have := hM1.size; omega) (by have := hM1.size; omega) hs3 hs4
            rwa [hM1.size, hz1] at this
          have hj : ∀ d2 d3, Mrg (ltOf cf) a mid d1 d2 → Mrg (ltOf cf) mid b d2 d3 → Mrg (ltOf cf) a b d d3 := fun d2 d3 h1 h2 => HCC.out.joined HO.out (by omega) (by omega) hb h1 h2
          have hi1 : a = s → Mrg (ltOf cf) a mid d1 d1 := fun h => by subst h; exact Mrg.idle HCC.out.s2
          have hi2 : s = mid → Mrg (ltOf cf) a mid d1 d1 := fun h => by subst h; exact Mrg.idle HCC.out.s1
          have hi3 : ∀ d2, Mrg (ltOf cf) a mid d1 d2 → e = b → Mrg (ltOf cf) mid b d2 d2 := fun d2 hM h => by
            subst h; exact Mrg.idle fun i j h1 h2 h3 => by rw [hM.out i (by omega), hM.out j (by omega)]; exact HCC.out.s3 i j h1 h2 h3
          have hi4 : ∀ d2, Mrg (ltOf cf) a mid d1 d2 → mid = e → Mrg (ltOf cf) mid b d2 d2 := fun d2 hM h => by
            subst h; exact Mrg.idle fun i j h1 h2 h3 => by rw [hM.out i (by omega), hM.out j (by omega)]; exact HCC.out.s4 i j h1 h2 h3
          have C1 := hid hc1
          have D1 := hid hd1
          have C2 := hid hc2
          have C3 := hid hc3
          have J := hid hj
          have I1 := hid hi1
          have I2 := hid hi2
          have I3 := hid hi3
          have I4 := hid hi4
          clear hc1 hd1 hc2 hc3 hj hi1 hi2 hi3 hi4 HCC HDD HD1 IH HC HLH HMID S12 HO S1 hz1
          by_cases q1 : s < m
          · by_cases q2 : m < e
            · have q3 : s < mid := by omega
              have q4 : mid < e := by omega
              have C1 := C1.out q1 q2
              by_cases q5 : a < s
              · by_cases q6 : e < b
                · go_wp2_with (first | (go_at_fn 68; refine C1.mono ?_; rintro e w1 ⟨rfl, hw1⟩; have W1 := hid hw1; clear hw1) | (go_at_fn 64; refine (C2.out _ W1.out q5 q3).mono ?_; rintro e w2 ⟨rfl, d2, hM, hw2⟩; have W2 := hid (And.intro hM hw2); clear hM hw2) | (go_at_fn 64; refine (C3.out _ _ W2.out.1 W2.out.2 q4 q6).mono ?_; rintro e w3 ⟨rfl, d3, hM, hw3⟩; have W3 := hid (And.intro hM hw3); clear hM hw3))
                  go_end0
                  exact ⟨rfl, d3, J.out _ _ W2.out.1 W3.out.1, W3.out.2⟩
                · go_wp2_with (first | (go_at_fn 68; refine C1.mono ?_; rintro e w1 ⟨rfl, hw1⟩; have W1 := hid hw1; clear hw1) | (go_at_fn 64; refine (C2.out _ W1.out q5 q3).mono ?_; rintro e w2 ⟨rfl, d2, hM, hw2⟩; have W2 := hid (And.intro hM hw2); clear hM hw2))
                  go_end0
                  exact ⟨rfl, d2, J.out _ _ W2.out.1 (I3.out _ W2.out.1 (by omega)), W2.out.2⟩
              · by_cases q6 : e < b
                · have M1 := hid (I1.out (by omega))
                  go_wp2_with (first | (go_at_fn 68; refine C1.mono ?_; rintro e w1 ⟨rfl, hw1⟩; have W1 := hid hw1; clear hw1) | (go_at_fn 64; refine (C3.out _ _ M1.out W1.out q4 q6).mono ?_; rintro e w3 ⟨rfl, d3, hM, hw3⟩; have W3 := hid (And.intro hM hw3); clear hM hw3))
                  go_end0
                  exact ⟨rfl, d3, J.out _ _ M1.out W3.out.1, W3.out.2⟩
                · have M1 := hid (I1.out (by omega))
                  go_wp2_with (first | (go_at_fn 68; refine C1.mono ?_; rintro e w1 ⟨rfl, hw1⟩; have W1 := hid hw1; clear hw1))
                  go_end0
                  exact ⟨rfl, d1, J.out _ _ M1.out (I3.out _ M1.out (by omega)), W1.out⟩
            · have q3 : ¬ s < mid := by omega
              have q4 : mid < e := by omega
              have q6 : e < b := by omega
              have W1 := hid (D1.out (fun h => q2 h.2))
              have M1 := hid (I2.out (by omega))
              by_cases q5 : a < s
              all_goals
                go_wp2_with (go_at_fn 64; refine (C3.out _ _ M1.out W1.out q4 q6).mono ?_; rintro e w3 ⟨rfl, d3, hM, hw3⟩; have W3 := hid (And.intro hM hw3); clear hM hw3)
                go_end0
                exact ⟨rfl, d3, J.out _ _ M1.out W3.out.1, W3.out.2⟩
          · have q5 : a < s := by omega
            have q4 : ¬ mid < e := by omega
            have W1 := hid (D1.out (fun h => q1 h.1))
            by_cases q3 : s < mid
            · go_wp2_with (go_at_fn 64; refine (C2.out _ W1.out q5 q3).mono ?_; rintro e w2 ⟨rfl, d2, hM, hw2⟩; have W2 := hid (And.intro hM hw2); clear hM hw2)
              go_end0
              exact ⟨rfl, d2, J.out _ _ W2.out.1 (I4.out _ W2.out.1 (by omega)), W2.out.2⟩
            · have M1 := hid (I2.out (by omega))
              go_wp2
              go_end0
              exact ⟨rfl, d1, J.out _ _ M1.out (I4.out _ M1.out (by omega)), W1.out⟩
end Go.Proofs.Ytpomfegcifpfkaa
/- slices.stableCmpFunc and SortStableFunc at segment's entries. -/
namespace Go.Proofs.Ytpomfegcifpfkaa
open Go Go.RowKit Go.Sort Go.Shelf
variable {P : Program} {k : Nat} {α : Type} [Inhabited α]
def renE : Go.Shelf.Ren := ⟨fun | 20 => 63 | n => n, fun | 3 => 3 | 4 => 4 | 22 => 30 | 24 => 50 | 25 => 99 | n => n, fun | n => n⟩
theorem laysE (L : SE P k) : SlLaysF0.n20 P renE := {
  mixed := L.mixed
  f20 := ⟨Try.f63.name, by decide, L.f3.trans (congrArg some (by kernel_rfl))⟩
  t0 := L.t0
  a0 := L.a0
  z0 := L.z0
  v0 := L.v0
  t3 := L.ti
  a3 := L.ai
  z3 := L.zi
  v3 := L.vi
  t4 := L.tb
  a4 := L.ab
  z4 := L.zb
  v4 := L.vb
  t22 := L.ts
  a22 := L.az
  z22 := L.zs
  v22 := L.vs
  t25 := L.tf
  a25 := L.af
  z25 := L.zf
  v25 := L.vf }
theorem insertE_ok (L : SE P k) (enc : α → List Value) (cf : α → α → Int) (g : Nat) (cb : Array Value) (blk off cap a b : Nat) (d0 d : Array α) (w0 w : World)
    (eg : ∀ args w, (callFunc g args).run P w = .ok (.enter g args) w) (hcmp : CmpLays P g cb enc k cf blk off d0.size w0) (R : RowK enc k w0 blk off d0) (hO : SWO (ltOf cf)) (hs : d0.size = d.size) (S : SWK enc k w0 blk off d w)
    (hab : a ≤ b) (hb : b ≤ d.size) (hsz : d.size < 4611686018427387904) :
    Calls P 63 #[.slice (some ⟨blk, off, none⟩) d.size cap, .int .i64 a, .int .i64 b, .func (.func g) #[] cb] w (SymPost (ltOf cf) enc k w0 blk off a b d) := by
  have hs' : (Sort.insertionSort (ltOf cf) d a b).size = d.size := (insertionSort_holds hO d a b hab hb).1.1
  have hC : CmpLays P g cb enc k cf blk off d.size w := fun m os dk hdk x y => by
    obtain ⟨n0, os0, rfl⟩ := S
    rw [sortWorldK_on enc k w0 blk off n0 m d dk os0 os R.hblk hdk]
    exact hcmp _ _ dk (by omega) x y
  refine (AnyQ.insertionSortCmpFunc (laysE L) k L.aE L.zE enc R.hk R.h1 cf g cb blk off cap a b d w eg hC (S.holds R.hblk R.hH hs.symm) (S.lt R.hblk) hab hb hsz).mono ?_
  rintro e w' ⟨rfl, n, os, rfl⟩
  exact ⟨rfl, _, Mrg.insertion (ltOf cf) hO d a b hab hb, S.on R.hblk n _ os hs'⟩
/-- What the sort's loops keep of the row: blocks of s up to p are sorted in blocks of s', equals are in order. -/
structure Part (lt : α → α → Bool) (d dk : Array α) : Prop where
  size : dk.size = d.size
  stab : Stab lt d dk
theorem Part.mrg {lt : α → α → Bool} {d dk d' : Array α} {a b : Nat} (h : Part lt d dk) (m : Mrg lt a b dk d') : Part lt d d' := ⟨m.size.trans h.size, h.stab.trans lt m.stab⟩
theorem sorted_out {lt : α → α → Bool} {a b x y : Nat} {d d' : Array α} (h : SortedIn lt x y d) (m : Mrg lt a b d d') (ho : y ≤ a ∨ b ≤ x) : SortedIn lt x y d' := fun i j h1 h2 h3 => by
  rw [m.out i (by omega), m.out j (by omega)]; exact h i j h1 h2 h3
/-- x is a head of a block of s. -/
def Mul (s x : Nat) : Prop := ∃ q, x = q * s
theorem Mul.zero (s : Nat) : Mul s 0 := ⟨0, by simp⟩
theorem Mul.half {s x : Nat} (h : Mul (2 * s) x) : Mul s x := by obtain ⟨q, rfl⟩ := h; exact ⟨q * 2, by rw [Nat.mul_assoc]⟩
theorem Mul.next {s x : Nat} (h : Mul s x) : Mul s (x + s) := by obtain ⟨q, rfl⟩ := h; exact ⟨q + 1, by rw [Nat.add_mul, Nat.one_mul]⟩
theorem Mul.le {s x a : Nat} (h : Mul s x) (h2 : Mul s a) (hl : x < a) : x + s ≤ a := by
  obtain ⟨p, rfl⟩ := h
  obtain ⟨q, rfl⟩ := h2
  have hpq : p < q := Nat.lt_of_mul_lt_mul_right hl
  have := Nat.mul_le_mul_right s (show p + 1 ≤ q from hpq)
  rwa [Nat.add_mul, Nat.one_mul] at this
set_option maxHeartbeats 8000000 in
set_option maxRecDepth 1000000 in
theorem stableE_ok (L : SE P k) (enc : α → List Value) (cf : α → α → Int) (g : Nat) (cb : Array Value) (blk off cap n : Nat) (d : Array α) (w : World)
    (eg : ∀ args w, (callFunc g args).run P w = .ok (.enter g args) w) (hcmp : CmpLays P g cb enc k cf blk off d.size w) (R : RowK enc k w blk off d) (hO : SWO (ltOf cf)) (hn : n = d.size) (hsz : d.size < 1152921504606846976) :
    Calls P 55 #[.slice (some ⟨blk, off, none⟩) d.size cap, .int .i64 n, .func (.func g) #[] cb] w (SymPost (ltOf cf) enc k w blk off 0 n d) := by
  have mixed := L.mixed; have t0 := L.t0; have a0 := L.a0; have z0 := L.z0; have v0 := L.v0; have ti := L.ti; have ai := L.ai; have zi := L.zi; have vi := L.vi; have tb := L.tb; have ab := L.ab; have zb := L.zb; have vb := L.vb; have ts := L.ts; have az := L.az; have zs := L.zs; have vs := L.vs; have tf := L.tf; have af := L.af; have zf := L.zf; have vf := L.vf; have tu := L.tu; have au := L.au; have zu := L.zu; have vu := L.vu; have aE := L.aE; have zE := L.zE
  have e3 : ∀ args w, (callFunc 63 args).run P w = .ok (.enter 63 args) w := enters_of L.f3 rfl rfl
  have e4 : ∀ args w, (callFunc 64 args).run P w = .ok (.enter 64 args) w := enters_of L.f4 rfl rfl
  have hins : ∀ (a b : Nat) (dk : Array α) (W : World), Part (ltOf cf) d dk → SWK enc k w blk off dk W → a ≤ b → b ≤ n → Calls P 63 #[.slice (some ⟨blk, off, none⟩) d.size cap, .int .i64 a, .int .i64 b, .func (.func g) #[] cb] W (SymPost (ltOf cf) enc k w blk off a b dk) := fun a b dk W hp hW hab hb => by
    have := insertE_ok L enc cf g cb blk off cap a b d dk w W eg hcmp R hO hp.size.symm hW hab (by have := hp.size; omega) (by have := hp.size; omega)
    rwa [hp.size] at this
  have hsym : ∀ (a m b : Nat) (dk : Array α) (W : World), Part (ltOf cf) d dk → SWK enc k w blk off dk W → a < m → m < b → b ≤ n → SortedIn (ltOf cf) a m dk → SortedIn (ltOf cf) m b dk → Calls P 64 #[.slice (some ⟨blk, off, none⟩) d.size cap, .int .i64 a, .int .i64 m, .int .i64 b, .func (.func g) #[] cb] W (SymPost (ltOf cf) enc k w blk off a b dk) := fun a m b dk W hp hW ham hmb hb s1 s2 => by
    have := symE_ok L enc cf g cb blk off cap d w eg hcmp R hO (b - a + 1) a m b dk W (by omega) hp.size.symm hW ham hmb (by have := hp.size; omega) (by have := hp.size; omega) s1 s2
    rwa [hp.size] at this
  have S0 := hid (SWK.start R.hH)
  have INS := hid hins
  have SYM := hid hsym
  have hn1 : n < 1152921504606846976 := by omega
  have HN := hid hn
  have HO := hid hO
  clear hins hsym hcmp hn hO
  go_enter L.f2, Try.ntmps55
  go_wp2
  go_loopg [7, 8] n (fun kx s7 s8 wr => ∃ (a : Nat) (dk : Array α), s7 = .int .i64 a ∧ s8 = .int .i64 ((a : Int) + 20) ∧ Mul 20 a ∧ a ≤ n ∧ n - a ≤ kx ∧ Part (ltOf cf) d dk ∧ Hid (SWK enc k w blk off dk wr) ∧ Hid (∀ x, Mul 20 x → x + 20 ≤ a → SortedIn (ltOf cf) x (x + 20) dk))
  case atStart => exact ⟨0, d, rfl, rfl, Mul.zero _, Nat.zero_le _, Nat.le_refl _, ⟨rfl, Stab.refl _ d⟩, S0, hid (fun x _ h => absurd h (by omega))⟩
  case round =>
    clear S0
    obtain ⟨a, dk, rfl, rfl, ha20, han, hkx, hp, S1, HS⟩ := hrel
    by_cases hlt : a + 20 ≤ n
    · have hc := INS.out a (a + 20) dk wr hp S1.out (by omega) hlt
      rw [show ((a + 20 : Nat) : Int) = (a : Int) + 20 by omega] at hc
      go_wp2_with (go_at_fn 63; refine hc.mono ?_; rintro e w1 ⟨rfl, d1, hM, hw1⟩; have W1 := hid (And.intro hM hw1); clear hM hw1)
      go_roundg (n - (a + 20))
      case measure => omega
      case rel =>
        refine ⟨a + 20, d1, by go_num, by simp, ha20.next, hlt, Nat.le_refl _, hp.mrg W1.out.1, hid W1.out.2, hid (fun x hx hx2 => ?_)⟩
        by_cases hxa : x = a
        · subst hxa; exact W1.out.1.sorted
        · have := hx.le ha20 (by omega)
          exact sorted_out (HS.out x hx this) W1.out.1 (.inl (by omega))
    · have hc := INS.out a n dk wr hp S1.out han (Nat.le_refl _)
      go_wp2_with (go_at_fn 63; refine hc.mono ?_; rintro e w1 ⟨rfl, d1, hM, hw1⟩; have W1 := hid (And.intro hM hw1); clear hM hw1)
      have hBS : ∀ x, Mul 20 x → SortedIn (ltOf cf) x (min (x + 20) n) d1 := fun x hx => by
        by_cases hxa : x + 20 ≤ a
        · rw [Nat.min_eq_left (by omega)]; exact sorted_out (HS.out x hx hxa) W1.out.1 (.inl (by omega))
        · by_cases hxe : x = a
          · subst hxe; rw [Nat.min_eq_right (by omega)]; exact W1.out.1.sorted
          · intro i j h1 h2 h3
            by_cases hl : x < a
            · exact absurd (hx.le ha20 hl) hxa
            · have := ha20.le hx (by omega); omega
      have hp1 := hp.mrg W1.out.1
      have HB := hid hBS
      have W2 := hid W1.out.2
      clear hBS S1 HS hc hp
      clear W1
      go_wp2
      go_loopg [6] n (fun kx s6 wr => ∃ (bs : Nat) (dk : Array α), s6 = .int .i64 bs ∧ 20 ≤ bs ∧ bs < 2305843009213693952 ∧ n - bs ≤ kx ∧ Part (ltOf cf) d dk ∧ Hid (SWK enc k w blk off dk wr) ∧ Hid (∀ x, Mul bs x → SortedIn (ltOf cf) x (min (x + bs) n) dk))
      case atStart => exact ⟨20, d1, rfl, by omega, by omega, by omega, hp1, W2, HB⟩
      case round =>
        clear W2 HB hp1
        obtain ⟨bs, dk, rfl, hbs, hbs2, hkx3, hp, S1, HB⟩ := hrel
        by_cases hlt2 : bs < n
        · go_wp2
          obtain ⟨wo, hwo⟩ : ∃ wo : World, wo = wr := ⟨_, rfl⟩
          subst hwo
          go_loopg [7, 8] n (fun kx4 s7 s8 wr => ∃ (a : Nat) (dk : Array α), s7 = .int .i64 a ∧ s8 = .int .i64 ((a : Int) + 2 * (bs : Int)) ∧ Mul (2 * bs) a ∧ a ≤ n ∧ n - a ≤ kx4 ∧ Part (ltOf cf) d dk ∧ Hid (SWK enc k w blk off dk wr) ∧ Hid (∀ x, Mul (2 * bs) x → x + 2 * bs ≤ a → SortedIn (ltOf cf) x (x + 2 * bs) dk) ∧ Hid (∀ x, Mul bs x → a ≤ x → SortedIn (ltOf cf) x (min (x + bs) n) dk))
          case atStart => exact ⟨0, dk, rfl, by simp, Mul.zero _, Nat.zero_le _, Nat.le_refl _, hp, S1, hid (fun x _ h => absurd h (by omega)), hid (fun x hx _ => HB.out x hx)⟩
          case round =>
            clear S1 HB hp
            obtain ⟨a, dk, rfl, rfl, ham, han2, hkx5, hp, S1, HS, HB⟩ := hrel
            have hsa := HB.out a ham.half (Nat.le_refl _)
            have hsm := HB.out (a + bs) ham.half.next (by omega)
            by_cases hlt3 : a + 2 * bs ≤ n
            · rw [Nat.min_eq_left (by omega)] at hsa hsm
              have hc := SYM.out a (a + bs) (a + 2 * bs) dk wr hp S1.out (by omega) (by omega) hlt3 hsa (by rw [show a + 2 * bs = a + bs + bs by omega]; exact hsm)
              rw [show ((a + bs : Nat) : Int) = (a : Int) + (bs : Int) by omega, show ((a + 2 * bs : Nat) : Int) = (a : Int) + 2 * (bs : Int) by omega] at hc
              clear hsa hsm
              go_wp2_with (go_at_fn 64; refine hc.mono ?_; rintro e w1 ⟨rfl, d1, hM, hw1⟩; have W1 := hid (And.intro hM hw1); clear hM hw1)
              go_roundg (n - (a + 2 * bs))
              case measure => omega
              case rel =>
                refine ⟨a + 2 * bs, d1, by congr 1 <;> omega, by congr 1 <;> omega, ham.next, hlt3, Nat.le_refl _, hp.mrg W1.out.1, hid W1.out.2, hid (fun x hx hx2 => ?_), hid (fun x hx hx2 => ?_)⟩
                · by_cases hxa : x = a
                  · subst hxa; exact W1.out.1.sorted
                  · have := hx.le ham (by omega)
                    exact sorted_out (HS.out x hx this) W1.out.1 (.inl (by omega))
                · exact sorted_out (HB.out x hx (by omega)) W1.out.1 (.inr (by omega))
            · by_cases hlt4 : a + bs < n
              · rw [Nat.min_eq_left (by omega)] at hsa
                rw [Nat.min_eq_right (by omega)] at hsm
                have hc := SYM.out a (a + bs) n dk wr hp S1.out (by omega) hlt4 (Nat.le_refl _) hsa hsm
                rw [show ((a + bs : Nat) : Int) = (a : Int) + (bs : Int) by omega] at hc
                clear hsa hsm
                go_wp2_with (go_at_fn 64; refine hc.mono ?_; rintro e w1 ⟨rfl, d1, hM, hw1⟩; have W1 := hid (And.intro hM hw1); clear hM hw1)
                go_roundg (n - 2 * bs)
                case measure => omega
                case rel =>
                  refine ⟨2 * bs, d1, by congr 1 <;> omega, by omega, by omega, Nat.le_refl _, hp.mrg W1.out.1, hid W1.out.2, hid (fun x hx => ?_)⟩
                  by_cases hxa : x < a
                  · have := hx.le ham hxa
                    rw [Nat.min_eq_left (by omega)]; exact sorted_out (HS.out x hx this) W1.out.1 (.inl (by omega))
                  · by_cases hxe : x = a
                    · subst hxe; rw [Nat.min_eq_right (by omega)]; exact W1.out.1.sorted
                    · intro i j h1 h2 h3
                      have := ham.le hx (by omega); omega
              · rw [Nat.min_eq_right (by omega)] at hsa
                have HSA := hid hsa
                clear hsa hsm
                go_wp2
                go_roundg (n - 2 * bs)
                case measure => omega
                case rel =>
                  refine ⟨2 * bs, dk, by congr 1 <;> omega, by omega, by omega, Nat.le_refl _, hp, S1, hid (fun x hx => ?_)⟩
                  by_cases hxa : x < a
                  · have := hx.le ham hxa
                    rw [Nat.min_eq_left (by omega)]; exact HS.out x hx this
                  · by_cases hxe : x = a
                    · subst hxe; rw [Nat.min_eq_right (by omega)]; exact HSA.out
                    · intro i j h1 h2 h3
                      have := ham.le hx (by omega); omega
        · have hM : Mrg (ltOf cf) 0 n d dk := by
            refine ⟨hp.size, fun i hi => ?_, ?_, hp.stab⟩
            · have := hp.size
              have := HN.out
              rw [getElem!_neg dk i (by omega), getElem!_neg d i (by omega)]
            · have := HB.out 0 (Mul.zero _)
              rwa [Nat.zero_add, Nat.min_eq_right (by omega)] at this
          have HM := hid hM
          clear hM
          go_wp2
          go_end0
          exact ⟨rfl, dk, HM.out, S1.out⟩
set_option maxHeartbeats 1000000 in
set_option maxRecDepth 1000000 in
theorem sortStE_ok (L : SE P k) (enc : α → List Value) (cf : α → α → Int) (g : Nat) (cb : Array Value) (blk off cap : Nat) (d : Array α) (w : World)
    (eg : ∀ args w, (callFunc g args).run P w = .ok (.enter g args) w) (hcmp : CmpLays P g cb enc k cf blk off d.size w) (R : RowK enc k w blk off d) (hO : SWO (ltOf cf)) (hsz : d.size < 1152921504606846976) :
    Calls P 37 #[.slice (some ⟨blk, off, none⟩) d.size cap, .func (.func g) #[] cb] w (SymPost (ltOf cf) enc k w blk off 0 d.size d) := by
  have mixed := L.mixed; have t0 := L.t0; have a0 := L.a0; have z0 := L.z0; have v0 := L.v0; have ti := L.ti; have ai := L.ai; have zi := L.zi; have vi := L.vi; have tb := L.tb; have ab := L.ab; have zb := L.zb; have vb := L.vb; have ts := L.ts; have az := L.az; have zs := L.zs; have vs := L.vs; have tf := L.tf; have af := L.af; have zf := L.zf; have vf := L.vf; have tu := L.tu; have au := L.au; have zu := L.zu; have vu := L.vu; have aE := L.aE; have zE := L.zE
  have e2 : ∀ args w, (callFunc 55 args).run P w = .ok (.enter 55 args) w := enters_of L.f2 rfl rfl
  have hc := stableE_ok L enc cf g cb blk off cap d.size d w eg hcmp R hO rfl hsz
  clear hcmp
  go_enter L.f1, Try.ntmps37
  go_wp2_with (go_at_fn 55; refine hc.mono ?_; rintro e w1 ⟨rfl, d1, hM, hw1⟩)
  go_end0
  exact ⟨rfl, d1, hM, hw1⟩
end Go.Proofs.Ytpomfegcifpfkaa
