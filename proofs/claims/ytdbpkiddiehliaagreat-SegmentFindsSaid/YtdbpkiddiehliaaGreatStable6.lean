/- slices.stableCmpFunc and SortStableFunc at segment's entries. -/
import Derived.Test.YtdbpkiddiehliaaGreatStable5
namespace Go.Proofs.YtdbpkiddiehliaaGreat
open Go Go.RowKit Go.Sort Go.Shelf
variable {P : Program} {k : Nat} {α : Type} [Inhabited α]
def renE : Go.Shelf.Ren := ⟨fun | 20 => 69 | n => n, fun | 3 => 3 | 4 => 4 | 22 => 31 | 24 => 54 | 25 => 101 | n => n, fun | n => n⟩
theorem laysE (L : SE P k) : SlLaysF0.n20 P renE := {
  mixed := L.mixed
  f20 := ⟨Tryz.f69.name, by decide, L.f3.trans (congrArg some (by kernel_rfl))⟩
  t0 := L.t0
  a0 := L.a0
  z0 := L.z0
  v0 := L.v0
  t3 := L.ti
  a3 := L.ai
  z3 := L.zi
  v3 := L.vi
  t4 := L.tb
  a4 := L.ab
  z4 := L.zb
  v4 := L.vb
  t22 := L.ts
  a22 := L.az
  z22 := L.zs
  v22 := L.vs
  t25 := L.tf
  a25 := L.af
  z25 := L.zf
  v25 := L.vf }
theorem insertE_ok (L : SE P k) (enc : α → List Value) (cf : α → α → Int) (g : Nat) (cb : Array Value) (blk off cap a b : Nat) (d0 d : Array α) (w0 w : World)
    (eg : ∀ args w, (callFunc g args).run P w = .ok (.enter g args) w) (hcmp : CmpLays P g cb enc k cf blk off d0.size w0) (R : RowK enc k w0 blk off d0) (hO : SWO (ltOf cf)) (hs : d0.size = d.size) (S : SWK enc k w0 blk off d w)
    (hab : a ≤ b) (hb : b ≤ d.size) (hsz : d.size < 4611686018427387904) :
    Calls P 69 #[.slice (some ⟨blk, off, none⟩) d.size cap, .int .i64 a, .int .i64 b, .func (.func g) #[] cb] w (SymPost (ltOf cf) enc k w0 blk off a b d) := by
  have hs' : (Sort.insertionSort (ltOf cf) d a b).size = d.size := (insertionSort_holds hO d a b hab hb).1.1
  have hC : CmpLays P g cb enc k cf blk off d.size w := fun m os dk hdk x y => by
    obtain ⟨n0, os0, rfl⟩ := S
    rw [sortWorldK_on enc k w0 blk off n0 m d dk os0 os R.hblk hdk]
    exact hcmp _ _ dk (by omega) x y
  refine (AnyQ.insertionSortCmpFunc (laysE L) k L.aE L.zE enc R.hk R.h1 cf g cb blk off cap a b d w eg hC (S.holds R.hblk R.hH hs.symm) (S.lt R.hblk) hab hb hsz).mono ?_
  rintro e w' ⟨rfl, n, os, rfl⟩
  exact ⟨rfl, _, Mrg.insertion (ltOf cf) hO d a b hab hb, S.on R.hblk n _ os hs'⟩
/-- What the sort's loops keep of the row: blocks of s up to p are sorted in blocks of s', equals are in order. -/
structure Part (lt : α → α → Bool) (d dk : Array α) : Prop where
  size : dk.size = d.size
  stab : Stab lt d dk
theorem Part.mrg {lt : α → α → Bool} {d dk d' : Array α} {a b : Nat} (h : Part lt d dk) (m : Mrg lt a b dk d') : Part lt d d' := ⟨m.size.trans h.size, h.stab.trans lt m.stab⟩
theorem sorted_out {lt : α → α → Bool} {a b x y : Nat} {d d' : Array α} (h : SortedIn lt x y d) (m : Mrg lt a b d d') (ho : y ≤ a ∨ b ≤ x) : SortedIn lt x y d' := fun i j h1 h2 h3 => by
  rw [m.out i (by omega), m.out j (by omega)]; exact h i j h1 h2 h3
/-- x is a head of a block of s. -/
def Mul (s x : Nat) : Prop := ∃ q, x = q * s
theorem Mul.zero (s : Nat) : Mul s 0 := ⟨0, by simp⟩
theorem Mul.half {s x : Nat} (h : Mul (2 * s) x) : Mul s x := by obtain ⟨q, rfl⟩ := h; exact ⟨q * 2, by rw [Nat.mul_assoc]⟩
theorem Mul.next {s x : Nat} (h : Mul s x) : Mul s (x + s) := by obtain ⟨q, rfl⟩ := h; exact ⟨q + 1, by rw [Nat.add_mul, Nat.one_mul]⟩
theorem Mul.le {s x a : Nat} (h : Mul s x) (h2 : Mul s a) (hl : x < a) : x + s ≤ a := by
  obtain ⟨p, rfl⟩ := h
  obtain ⟨q, rfl⟩ := h2
  have hpq : p < q := Nat.lt_of_mul_lt_mul_right hl
  have := Nat.mul_le_mul_right s (show p + 1 ≤ q from hpq)
  rwa [Nat.add_mul, Nat.one_mul] at this
set_option maxHeartbeats 8000000 in
set_option maxRecDepth 1000000 in
theorem stableE_ok (L : SE P k) (enc : α → List Value) (cf : α → α → Int) (g : Nat) (cb : Array Value) (blk off cap n : Nat) (d : Array α) (w : World)
    (eg : ∀ args w, (callFunc g args).run P w = .ok (.enter g args) w) (hcmp : CmpLays P g cb enc k cf blk off d.size w) (R : RowK enc k w blk off d) (hO : SWO (ltOf cf)) (hn : n = d.size) (hsz : d.size < 1152921504606846976) :
    Calls P 54 #[.slice (some ⟨blk, off, none⟩) d.size cap, .int .i64 n, .func (.func g) #[] cb] w (SymPost (ltOf cf) enc k w blk off 0 n d) := by
  have mixed := L.mixed; have t0 := L.t0; have a0 := L.a0; have z0 := L.z0; have v0 := L.v0; have ti := L.ti; have ai := L.ai; have zi := L.zi; have vi := L.vi; have tb := L.tb; have ab := L.ab; have zb := L.zb; have vb := L.vb; have ts := L.ts; have az := L.az; have zs := L.zs; have vs := L.vs; have tf := L.tf; have af := L.af; have zf := L.zf; have vf := L.vf; have tu := L.tu; have au := L.au; have zu := L.zu; have vu := L.vu; have aE := L.aE; have zE := L.zE
  have e3 : ∀ args w, (callFunc 69 args).run P w = .ok (.enter 69 args) w := enters_of L.f3 rfl rfl
  have e4 : ∀ args w, (callFunc 70 args).run P w = .ok (.enter 70 args) w := enters_of L.f4 rfl rfl
  have hins : ∀ (a b : Nat) (dk : Array α) (W : World), Part (ltOf cf) d dk → SWK enc k w blk off dk W → a ≤ b → b ≤ n → Calls P 69 #[.slice (some ⟨blk, off, none⟩) d.size cap, .int .i64 a, .int .i64 b, .func (.func g) #[] cb] W (SymPost (ltOf cf) enc k w blk off a b dk) := fun a b dk W hp hW hab hb => by
    have := insertE_ok L enc cf g cb blk off cap a b d dk w W eg hcmp R hO hp.size.symm hW hab (by have := hp.size; omega) (by have := hp.size; omega)
    rwa [hp.size] at this
  have hsym : ∀ (a m b : Nat) (dk : Array α) (W : World), Part (ltOf cf) d dk → SWK enc k w blk off dk W → a < m → m < b → b ≤ n → SortedIn (ltOf cf) a m dk → SortedIn (ltOf cf) m b dk → Calls P 70 #[.slice (some ⟨blk, off, none⟩) d.size cap, .int .i64 a, .int .i64 m, .int .i64 b, .func (.func g) #[] cb] W (SymPost (ltOf cf) enc k w blk off a b dk) := fun a m b dk W hp hW ham hmb hb s1 s2 => by
    have := symE_ok L enc cf g cb blk off cap d w eg hcmp R hO (b - a + 1) a m b dk W (by omega) hp.size.symm hW ham hmb (by have := hp.size; omega) (by have := hp.size; omega) s1 s2
    rwa [hp.size] at this
  have S0 := hid (SWK.start R.hH)
  have INS := hid hins
  have SYM := hid hsym
  have hn1 : n < 1152921504606846976 := by omega
  have HN := hid hn
  have HO := hid hO
  clear hins hsym hcmp hn hO
  go_enter L.f2, Tryz.ntmps54
  go_wp2
  go_loopg [7, 8] n (fun kx s7 s8 wr => ∃ (a : Nat) (dk : Array α), s7 = .int .i64 a ∧ s8 = .int .i64 ((a : Int) + 20) ∧ Mul 20 a ∧ a ≤ n ∧ n - a ≤ kx ∧ Part (ltOf cf) d dk ∧ Hid (SWK enc k w blk off dk wr) ∧ Hid (∀ x, Mul 20 x → x + 20 ≤ a → SortedIn (ltOf cf) x (x + 20) dk))
  case atStart => exact ⟨0, d, rfl, rfl, Mul.zero _, Nat.zero_le _, Nat.le_refl _, ⟨rfl, Stab.refl _ d⟩, S0, hid (fun x _ h => absurd h (by omega))⟩
  case round =>
    clear S0
    obtain ⟨a, dk, rfl, rfl, ha20, han, hkx, hp, S1, HS⟩ := hrel
    by_cases hlt : a + 20 ≤ n
    · have hc := INS.out a (a + 20) dk wr hp S1.out (by omega) hlt
      rw [show ((a + 20 : Nat) : Int) = (a : Int) + 20 by omega] at hc
      go_wp2_with (go_at_fn 69; refine hc.mono ?_; rintro e w1 ⟨rfl, d1, hM, hw1⟩; have W1 := hid (And.intro hM hw1); clear hM hw1)
      go_roundg (n - (a + 20))
      case measure => omega
      case rel =>
        refine ⟨a + 20, d1, by go_num, by simp, ha20.next, hlt, Nat.le_refl _, hp.mrg W1.out.1, hid W1.out.2, hid (fun x hx hx2 => ?_)⟩
        by_cases hxa : x = a
        · subst hxa; exact W1.out.1.sorted
        · have := hx.le ha20 (by omega)
          exact sorted_out (HS.out x hx this) W1.out.1 (.inl (by omega))
    · have hc := INS.out a n dk wr hp S1.out han (Nat.le_refl _)
      go_wp2_with (go_at_fn 69; refine hc.mono ?_; rintro e w1 ⟨rfl, d1, hM, hw1⟩; have W1 := hid (And.intro hM hw1); clear hM hw1)
      have hBS : ∀ x, Mul 20 x → SortedIn (ltOf cf) x (min (x + 20) n) d1 := fun x hx => by
        by_cases hxa : x + 20 ≤ a
        · rw [Nat.min_eq_left (by omega)]; exact sorted_out (HS.out x hx hxa) W1.out.1 (.inl (by omega))
        · by_cases hxe : x = a
          · subst hxe; rw [Nat.min_eq_right (by omega)]; exact W1.out.1.sorted
          · intro i j h1 h2 h3
            by_cases hl : x < a
            · exact absurd (hx.le ha20 hl) hxa
            · have := ha20.le hx (by omega); omega
      have hp1 := hp.mrg W1.out.1
      have HB := hid hBS
      have W2 := hid W1.out.2
      clear hBS S1 HS hc hp
      clear W1
      go_wp2
      go_loopg [6] n (fun kx s6 wr => ∃ (bs : Nat) (dk : Array α), s6 = .int .i64 bs ∧ 20 ≤ bs ∧ bs < 2305843009213693952 ∧ n - bs ≤ kx ∧ Part (ltOf cf) d dk ∧ Hid (SWK enc k w blk off dk wr) ∧ Hid (∀ x, Mul bs x → SortedIn (ltOf cf) x (min (x + bs) n) dk))
      case atStart => exact ⟨20, d1, rfl, by omega, by omega, by omega, hp1, W2, HB⟩
      case round =>
        clear W2 HB hp1
        obtain ⟨bs, dk, rfl, hbs, hbs2, hkx3, hp, S1, HB⟩ := hrel
        by_cases hlt2 : bs < n
        · go_wp2
          obtain ⟨wo, hwo⟩ : ∃ wo : World, wo = wr := ⟨_, rfl⟩
          subst hwo
          go_loopg [7, 8] n (fun kx4 s7 s8 wr => ∃ (a : Nat) (dk : Array α), s7 = .int .i64 a ∧ s8 = .int .i64 ((a : Int) + 2 * (bs : Int)) ∧ Mul (2 * bs) a ∧ a ≤ n ∧ n - a ≤ kx4 ∧ Part (ltOf cf) d dk ∧ Hid (SWK enc k w blk off dk wr) ∧ Hid (∀ x, Mul (2 * bs) x → x + 2 * bs ≤ a → SortedIn (ltOf cf) x (x + 2 * bs) dk) ∧ Hid (∀ x, Mul bs x → a ≤ x → SortedIn (ltOf cf) x (min (x + bs) n) dk))
          case atStart => exact ⟨0, dk, rfl, by simp, Mul.zero _, Nat.zero_le _, Nat.le_refl _, hp, S1, hid (fun x _ h => absurd h (by omega)), hid (fun x hx _ => HB.out x hx)⟩
          case round =>
            clear S1 HB hp
            obtain ⟨a, dk, rfl, rfl, ham, han2, hkx5, hp, S1, HS, HB⟩ := hrel
            have hsa := HB.out a ham.half (Nat.le_refl _)
            have hsm := HB.out (a + bs) ham.half.next (by omega)
            by_cases hlt3 : a + 2 * bs ≤ n
            · rw [Nat.min_eq_left (by omega)] at hsa hsm
              have hc := SYM.out a (a + bs) (a + 2 * bs) dk wr hp S1.out (by omega) (by omega) hlt3 hsa (by rw [show a + 2 * bs = a + bs + bs by omega]; exact hsm)
              rw [show ((a + bs : Nat) : Int) = (a : Int) + (bs : Int) by omega, show ((a + 2 * bs : Nat) : Int) = (a : Int) + 2 * (bs : Int) by omega] at hc
              clear hsa hsm
              go_wp2_with (go_at_fn 70; refine hc.mono ?_; rintro e w1 ⟨rfl, d1, hM, hw1⟩; have W1 := hid (And.intro hM hw1); clear hM hw1)
              go_roundg (n - (a + 2 * bs))
              case measure => omega
              case rel =>
                refine ⟨a + 2 * bs, d1, by congr 1 <;> omega, by congr 1 <;> omega, ham.next, hlt3, Nat.le_refl _, hp.mrg W1.out.1, hid W1.out.2, hid (fun x hx hx2 => ?_), hid (fun x hx hx2 => ?_)⟩
                · by_cases hxa : x = a
                  · subst hxa; exact W1.out.1.sorted
                  · have := hx.le ham (by omega)
                    exact sorted_out (HS.out x hx this) W1.out.1 (.inl (by omega))
                · exact sorted_out (HB.out x hx (by omega)) W1.out.1 (.inr (by omega))
            · by_cases hlt4 : a + bs < n
              · rw [Nat.min_eq_left (by omega)] at hsa
                rw [Nat.min_eq_right (by omega)] at hsm
                have hc := SYM.out a (a + bs) n dk wr hp S1.out (by omega) hlt4 (Nat.le_refl _) hsa hsm
                rw [show ((a + bs : Nat) : Int) = (a : Int) + (bs : Int) by omega] at hc
                clear hsa hsm
                go_wp2_with (go_at_fn 70; refine hc.mono ?_; rintro e w1 ⟨rfl, d1, hM, hw1⟩; have W1 := hid (And.intro hM hw1); clear hM hw1)
                go_roundg (n - 2 * bs)
                case measure => omega
                case rel =>
                  refine ⟨2 * bs, d1, by congr 1 <;> omega, by omega, by omega, Nat.le_refl _, hp.mrg W1.out.1, hid W1.out.2, hid (fun x hx => ?_)⟩
                  by_cases hxa : x < a
                  · have := hx.le ham hxa
                    rw [Nat.min_eq_left (by omega)]; exact sorted_out (HS.out x hx this) W1.out.1 (.inl (by omega))
                  · by_cases hxe : x = a
                    · subst hxe; rw [Nat.min_eq_right (by omega)]; exact W1.out.1.sorted
                    · intro i j h1 h2 h3
                      have := ham.le hx (by omega); omega
              · rw [Nat.min_eq_right (by omega)] at hsa
                have HSA := hid hsa
                clear hsa hsm
                go_wp2
                go_roundg (n - 2 * bs)
                case measure => omega
                case rel =>
                  refine ⟨2 * bs, dk, by congr 1 <;> omega, by omega, by omega, Nat.le_refl _, hp, S1, hid (fun x hx => ?_)⟩
                  by_cases hxa : x < a
                  · have := hx.le ham hxa
                    rw [Nat.min_eq_left (by omega)]; exact HS.out x hx this
                  · by_cases hxe : x = a
                    · subst hxe; rw [Nat.min_eq_right (by omega)]; exact HSA.out
                    · intro i j h1 h2 h3
                      have := ham.le hx (by omega); omega
        · have hM : Mrg (ltOf cf) 0 n d dk := by
            refine ⟨hp.size, fun i hi => ?_, ?_, hp.stab⟩
            · have := hp.size
              have := HN.out
              rw [getElem!_neg dk i (by omega), getElem!_neg d i (by omega)]
            · have := HB.out 0 (Mul.zero _)
              rwa [Nat.zero_add, Nat.min_eq_right (by omega)] at this
          have HM := hid hM
          clear hM
          go_wp2
          go_end0
          exact ⟨rfl, dk, HM.out, S1.out⟩
set_option maxHeartbeats 1000000 in
set_option maxRecDepth 1000000 in
theorem sortStE_ok (L : SE P k) (enc : α → List Value) (cf : α → α → Int) (g : Nat) (cb : Array Value) (blk off cap : Nat) (d : Array α) (w : World)
    (eg : ∀ args w, (callFunc g args).run P w = .ok (.enter g args) w) (hcmp : CmpLays P g cb enc k cf blk off d.size w) (R : RowK enc k w blk off d) (hO : SWO (ltOf cf)) (hsz : d.size < 1152921504606846976) :
    Calls P 39 #[.slice (some ⟨blk, off, none⟩) d.size cap, .func (.func g) #[] cb] w (SymPost (ltOf cf) enc k w blk off 0 d.size d) := by
  have mixed := L.mixed; have t0 := L.t0; have a0 := L.a0; have z0 := L.z0; have v0 := L.v0; have ti := L.ti; have ai := L.ai; have zi := L.zi; have vi := L.vi; have tb := L.tb; have ab := L.ab; have zb := L.zb; have vb := L.vb; have ts := L.ts; have az := L.az; have zs := L.zs; have vs := L.vs; have tf := L.tf; have af := L.af; have zf := L.zf; have vf := L.vf; have tu := L.tu; have au := L.au; have zu := L.zu; have vu := L.vu; have aE := L.aE; have zE := L.zE
  have e2 : ∀ args w, (callFunc 54 args).run P w = .ok (.enter 54 args) w := enters_of L.f2 rfl rfl
  have hc := stableE_ok L enc cf g cb blk off cap d.size d w eg hcmp R hO rfl hsz
  clear hcmp
  go_enter L.f1, Tryz.ntmps39
  go_wp2_with (go_at_fn 54; refine hc.mono ?_; rintro e w1 ⟨rfl, d1, hM, hw1⟩)
  go_end0
  exact ⟨rfl, d1, hM, hw1⟩
end Go.Proofs.YtdbpkiddiehliaaGreat
