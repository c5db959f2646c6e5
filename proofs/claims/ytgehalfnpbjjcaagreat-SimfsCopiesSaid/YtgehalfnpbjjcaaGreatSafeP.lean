/- SimfsSafe, as plain functions. -/
import Derived.Test.YtgehalfnpbjjcaaGreatStepP
namespace Go.Proofs.YtgehalfnpbjjcaaGreat
open Go Go.RowKit
theorem goF_up {st : FSt} (h : st.armed = false) (f : FSt → FSt) : goF st f = (f (tick st), 0) := by
  unfold goF
  rw [if_neg (by rw [h]; simp)]
/-- Not armed, up, few and short files. -/
structure UpI (st : FSt) (i : Nat) : Prop where
  armed : st.armed = false
  down : st.down = false
  room : st.room = 99000
  few : st.seen.length ≤ i
  len : ∀ p x, st.files p = some x → x.b.length ≤ 200 * i
theorem UpI.up {st : FSt} {i j : Nat} (h : UpI st i) (hj : i ≤ j) : UpI st j := ⟨h.armed, h.down, h.room, Nat.le_trans h.few hj, fun p x hx => Nat.le_trans (h.len p x hx) (Nat.mul_le_mul_left _ hj)⟩
theorem UpI.tick {st : FSt} {i : Nat} (h : UpI st i) : UpI (tick st) i := ⟨h.armed, h.down, h.room, h.few, h.len⟩
theorem UpI.chg {st : FSt} {i : Nat} (h : UpI st i) (c : Chg) : UpI (chgF st c) (i + 1) := ⟨h.armed, h.down, h.room, by have := doF_length st.seen c; have := h.few; show (doF st.seen c).length ≤ _; omega, fun p x hx => Nat.le_trans (h.len p x hx) (by omega)⟩
theorem UpI.put {st : FSt} {i j : Nat} (h : UpI st i) {p : Nat} {x : Fil} (hj : i ≤ j) (hx : x.b.length ≤ 200 * j) : UpI { st with files := putFil st.files p x } j := ⟨h.armed, h.down, h.room, Nat.le_trans h.few hj, fun q y hy => by
  simp only [putFil] at hy
  split at hy
  · injection hy with hy; subst hy; exact hx
  · exact Nat.le_trans (h.len q y hy) (Nat.mul_le_mul_left _ hj)⟩
theorem UpI.rel {st st' : FSt} {k : Int} {nm to : ByteArray} {b : List UInt8} {n : Int} {i : Nat} (h : UpI st i) (hr : SRel st k nm to b n st') (hk : k < 7) (hb : b.length ≤ 200) : UpI st' (i + 1) := by
  have h0 := h.up (Nat.le_succ i)
  unfold SRel at hr
  split at hr
  · obtain ⟨p, _, rfl⟩ := hr
    unfold createF
    split
    · rw [goF_up h.armed]
      exact (h.tick.put (p := p) (x := ⟨[], 0⟩) (Nat.le_refl _) (Nat.zero_le _)).chg _
    · exact h0
  split at hr
  · subst hr
    unfold appendF
    split
    · split
      · exact h0
      · rw [goF_up h.armed]
        split
        · rename_i x hx
          exact h.tick.put (Nat.le_succ i) (by
            have := h.tick.len _ x hx
            show (x.b ++ b).length ≤ _
            rw [List.length_append]
            omega)
        · exact h0.tick
    · exact h0
  split at hr
  · subst hr
    unfold renameF
    split
    · exact h0
    · split
      · exact h0
      · split
        · rw [goF_up h.armed]
          exact h.tick.chg _
        · exact h0
  split at hr
  · subst hr
    unfold removeF
    split
    · rw [goF_up h.armed]
      exact h.tick.chg _
    · exact h0
  split at hr
  · subst hr
    unfold fsyncF
    split
    · rw [goF_up h.armed]
      split
      · rename_i x hx
        exact h.tick.put (Nat.le_succ i) (Nat.le_trans (h.tick.len _ x hx) (by omega))
      · exact h0.tick
    · exact h0
  split at hr
  · subst hr
    unfold syncF
    split
    · exact h0
    · rw [goF_up h.armed]
      exact ⟨h0.armed, h0.down, h0.room, h0.few, h0.len⟩
  split at hr
  · omega
  · subst hr
    exact h0
theorem find_in {st : FSt} {n : ByteArray} {p : Nat} (hd : st.down = false) (hn : nameR n = true) (hg : dget st.seen n = some p) : findF st n = (0, some p) := by
  unfold findF
  rw [hd, hn, hg]
  rfl
theorem find_out {st : FSt} {n : ByteArray} (hd : st.down = false) (hn : nameR n = true) (hg : dget st.seen n = none) : findF st n = (5, none) := by
  unfold findF
  rw [hd, hn, hg]
  rfl
theorem dget_eraseless {d : Dir} {k : ByteArray} : dget (doF d ⟨k, ByteArray.empty, none⟩) k = none := by
  unfold doF
  simp only [if_true]
  exact dget_del_self d k
/-- Behind Remove the name is not there. -/
theorem remove_gone {st : FSt} {n : ByteArray} {i : Nat} (h : UpI st i) (hn : nameR n = true) : UpI (removeF st n).1 (i + 1) ∧ dget (removeF st n).1.seen n = none := by
  refine ⟨h.rel (k := 4) (nm := n) (to := n) (b := []) (n := 0) (by rfl) (by decide) (by simp), ?_⟩
  cases hg : dget st.seen n with
  | none =>
    unfold removeF
    rw [find_out h.down hn hg]
    exact hg
  | some p =>
    unfold removeF
    rw [find_in h.down hn hg, if_pos rfl, goF_up h.armed]
    exact dget_eraseless
/-- A file with its name alone, and all of it safe. -/
structure Kept (st : FSt) (n : ByteArray) (p : Nat) (b : List UInt8) : Prop where
  seen : dget st.seen n = some p
  only : ∀ q ∈ st.seen, q.2 = p → q.1 = n
  safe : dget st.safe n = some p
  fil : st.files p = some ⟨b, b.length⟩
  chg : ∀ c ∈ st.chg, c.nm ≠ n ∧ c.src ≠ n
theorem doF_other {d : Dir} {c : Chg} {n : ByteArray} (hd : (d.map Prod.fst).Nodup) (h1 : c.nm ≠ n) (h2 : c.src ≠ n) : dget (doF d c) n = dget d n := by
  unfold doF
  have h3 : dget (if c.src = ByteArray.empty then d else ddel d c.src) n = dget d n := by
    split
    · rfl
    · exact dget_del_ne hd (fun h => h2 h.symm)
  have h4 : ((if c.src = ByteArray.empty then d else ddel d c.src).map Prod.fst).Nodup := by
    split
    · exact hd
    · exact ddel_nodup hd _
  simp only
  split
  · rw [dget_del_ne h4 (fun h => h1 h.symm)]
    exact h3
  · rw [dget_put_ne h4 (fun h => h1 h.symm)]
    exact h3
theorem doAll_other {n : ByteArray} : ∀ {l : List Chg} {d : Dir}, (d.map Prod.fst).Nodup → (∀ c ∈ l, c.nm ≠ n ∧ c.src ≠ n) → dget (doAll d l) n = dget d n
  | [], _, _, _ => rfl
  | c :: l, d, hd, h => by
    have h1 := h c (by simp)
    have h2 := doAll_other (l := l) (d := doF d c) (doF_nodup hd c) (fun x hx => h x (by simp [hx]))
    show dget (doAll (doF d c) l) n = _
    rw [h2, doF_other hd h1.1 h1.2]
theorem Kept.chgF {st : FSt} {n : ByteArray} {p : Nat} {b : List UInt8} (h : Kept st n p b) (hok : st.Ok) {c : Chg} (h1 : c.nm ≠ n) (h2 : c.src ≠ n) (h3 : c.dst ≠ some p) : Kept (chgF st c) n p b where
  seen := (doF_other hok.seenN h1 h2).trans h.seen
  only := fun q hq hp => by
    rcases mem_doF hq with hq | ⟨_, hq⟩
    · exact h.only q hq hp
    · rw [hp] at hq; exact absurd hq h3
  safe := h.safe
  fil := h.fil
  chg := fun x hx => by
    rcases List.mem_append.1 hx with hx | hx
    · exact h.chg x hx
    · simp at hx; subst hx; exact ⟨h1, h2⟩
theorem Kept.like {st s : FSt} {n : ByteArray} {p : Nat} {b : List UInt8} (h : Kept st n p b) (h1 : s.seen = st.seen) (h2 : s.safe = st.safe) (h3 : s.files = st.files) (h4 : s.chg = st.chg) : Kept s n p b := ⟨by rw [h1]; exact h.seen, by rw [h1]; exact h.only, by rw [h2]; exact h.safe, by rw [h3]; exact h.fil, by rw [h4]; exact h.chg⟩
theorem Kept.putF {st : FSt} {n : ByteArray} {p q : Nat} {b : List UInt8} (h : Kept st n p b) (hq : q ≠ p) (x : Fil) : Kept { st with files := putFil st.files q x } n p b := ⟨h.seen, h.only, h.safe, by show putFil st.files q x p = _; unfold putFil; rw [if_neg (fun e => hq e.symm)]; exact h.fil, h.chg⟩
theorem Kept.goF {st : FSt} {n : ByteArray} {p : Nat} {b : List UInt8} (h : Kept st n p b) {f : FSt → FSt} (hf : Kept (f (tick st)) n p b) : Kept (goF st f).1 n p b := goF_ind (P := fun s => Kept s n p b) (h.like rfl rfl rfl rfl) hf
theorem find_ne {st : FSt} {n m : ByteArray} {p q : Nat} {b : List UInt8} (h : Kept st n p b) (hm : m ≠ n) (hq : findF st m = (0, some q)) : q ≠ p := fun e => by
  have := h.only (m, q) (mem_seen hq) e
  exact hm this
theorem empty_ne {n : ByteArray} (hn : nameR n = true) : ByteArray.empty ≠ n := fun e => by
  rw [← e] at hn
  exact absurd hn (by decide)
theorem Kept.rel {st st' : FSt} {k : Int} {nm to : ByteArray} {bb : List UInt8} {m : Int} {n : ByteArray} {p : Nat} {b : List UInt8} (h : Kept st n p b) (hok : st.Ok) (hn : nameR n = true) (hr : SRel st k nm to bb m st') (h1 : nm ≠ n) (h2 : to ≠ n) : Kept st' n p b := by
  have ht : Kept (tick st) n p b := h.like rfl rfl rfl rfl
  have hot : (tick st).Ok := hok.tick
  unfold SRel at hr
  split at hr
  · obtain ⟨q, hq, rfl⟩ := hr
    have hqp : q ≠ p := fun e => by rw [e, h.fil] at hq; cases hq
    unfold createF
    split
    · refine h.goF ?_
      exact (ht.putF hqp ⟨[], 0⟩).chgF (hot.put (p := q) (x := ⟨[], 0⟩) ⟨Nat.le_refl _, Nat.zero_le _⟩) h1 (empty_ne hn) (fun e => hqp (by injection e))
    · exact h
  split at hr
  · subst hr
    unfold appendF
    split
    · rename_i q hq
      split
      · exact h
      · refine h.goF ?_
        split
        · exact ht.putF (find_ne h h1 hq) _
        · exact ht
    · exact h
  split at hr
  · subst hr
    unfold renameF
    split
    · exact h
    · split
      · exact h
      · split
        · rename_i q hq
          exact h.goF (ht.chgF hot h2 h1 (fun e => find_ne h h1 hq (by injection e)))
        · exact h
  split at hr
  · subst hr
    unfold removeF
    split
    · exact h.goF (ht.chgF hot h1 (empty_ne hn) (fun e => by cases e))
    · exact h
  split at hr
  · subst hr
    unfold fsyncF
    split
    · rename_i q hq
      refine h.goF ?_
      split
      · exact ht.putF (find_ne h h1 hq) _
      · exact ht
    · exact h
  split at hr
  · subst hr
    unfold syncF
    split
    · exact h
    · refine h.goF ⟨ht.seen, ht.only, ?_, ht.fil, fun c hc => by simp [settleF] at hc⟩
      show dget (doAll (tick st).safe ((tick st).chg.take (tick st).chg.length)) n = some p
      rw [List.take_length, doAll_other hot.safeN ht.chg]
      exact ht.safe
  split at hr
  · subst hr
    unfold armF
    split
    · exact h
    · split
      · exact h
      · exact h.like rfl rfl rfl rfl
  · subst hr
    exact h
/-- Written and synced. -/
theorem kept_made {st : FSt} {n : ByteArray} {i : Nat} {b : List UInt8} {p : Nat} (h : UpI st i) (hok : st.Ok) (hi : i ≤ 21) (hn : nameR n = true) (hg : dget st.seen n = none) (hb : b.length ≤ 200) (hp : st.files p = none) :
    (createF st n p).2 = 0 ∧ (appendF (createF st n p).1 n b).2 = 0 ∧ (fsyncF (appendF (createF st n p).1 n b).1 n).2 = 0 ∧ (syncF (fsyncF (appendF (createF st n p).1 n b).1 n).1).2 = 0 ∧ Kept (syncF (fsyncF (appendF (createF st n p).1 n b).1 n).1).1 n p b := by
  have h5 : (findF st n).1 = 5 := by rw [find_out h.down hn hg]
  have hfr : ∀ q ∈ st.seen, q.2 ≠ p := fun q hq e => by
    have := (hok.seenI q hq).1
    rw [e, hp] at this
    cases this
  obtain ⟨s1, hs1⟩ : ∃ s1, s1 = chgF { tick st with files := putFil (tick st).files p ⟨[], 0⟩ } ⟨n, ByteArray.empty, some p⟩ := ⟨_, rfl⟩
  have e1 : createF st n p = (s1, 0) := by
    unfold createF
    rw [if_pos h5, goF_up h.armed, hs1]
  have hu1 : UpI s1 (i + 1) := by
    rw [hs1]
    exact (h.tick.put (p := p) (x := ⟨[], 0⟩) (Nat.le_refl _) (Nat.zero_le _)).chg _
  have hseen : s1.seen = dput st.seen n p := by rw [hs1]; rfl
  have hg1 : dget s1.seen n = some p := by rw [hseen]; exact dget_put_self hok.seenN n p
  have hf1 : s1.files p = some ⟨[], 0⟩ := by rw [hs1]; show putFil _ p _ p = _; unfold putFil; rw [if_pos rfl]
  have ho1 : ∀ q ∈ s1.seen, q.2 = p → q.1 = n := fun q hq e => by
    rw [hseen] at hq
    rcases mem_dput hq with hq | rfl
    · exact absurd e (hfr q hq)
    · rfl
  have hc1 : s1.chg = st.chg ++ [⟨n, ByteArray.empty, some p⟩] := by rw [hs1]; rfl
  have hsf1 : s1.safe = st.safe := by rw [hs1]; rfl
  rw [e1]
  simp only
  have hfi1 := find_in hu1.down hn hg1
  have hused : usedF s1 ≤ s1.seen.length * (200 * (i + 1)) := sum_le (fun q => by
    unfold lenF
    split
    · rename_i x hx; exact hu1.len q x hx
    · omega)
  have hused2 : usedF s1 ≤ 22 * 4400 := Nat.le_trans hused (Nat.mul_le_mul (Nat.le_trans hu1.few (by omega)) (by omega))
  obtain ⟨s2, hs2⟩ : ∃ s2, s2 = { tick s1 with files := putFil (tick s1).files p ⟨[] ++ b, 0⟩ } := ⟨_, rfl⟩
  have e2 : appendF s1 n b = (s2, 0) := by
    unfold appendF
    rw [hfi1]
    simp only
    rw [if_neg (by rw [hu1.room]; omega), goF_up hu1.armed]
    have hf : (tick s1).files p = some ⟨[], 0⟩ := hf1
    rw [hf, hs2]
  have hfi2 : findF s2 n = (0, some p) := by rw [hs2]; exact find_in hu1.down hn hg1
  have ha2 : s2.armed = false := by rw [hs2]; exact hu1.armed
  have hf2 : s2.files p = some ⟨b, 0⟩ := by rw [hs2]; show putFil _ p _ p = _; unfold putFil; rw [if_pos rfl]; rfl
  rw [e2]
  simp only
  obtain ⟨s3, hs3⟩ : ∃ s3, s3 = { tick s2 with files := putFil (tick s2).files p ⟨b, b.length⟩ } := ⟨_, rfl⟩
  have e3 : fsyncF s2 n = (s3, 0) := by
    unfold fsyncF
    rw [hfi2]
    simp only
    rw [goF_up ha2]
    have hf : (tick s2).files p = some ⟨b, 0⟩ := hf2
    rw [hf, hs3]
  have ha3 : s3.armed = false := by rw [hs3]; exact ha2
  have hd3 : s3.down = false := by rw [hs3, hs2]; exact hu1.down
  have hf3 : s3.files p = some ⟨b, b.length⟩ := by rw [hs3]; show putFil _ p _ p = _; unfold putFil; rw [if_pos rfl]
  rw [e3]
  simp only
  have e4 : syncF s3 = (settleF (tick s3) (tick s3).chg.length, 0) := by
    unfold syncF
    rw [hd3]
    simp only [Bool.false_eq_true, if_false]
    rw [goF_up ha3]
  rw [e4]
  have hse3 : s3.seen = s1.seen := by rw [hs3, hs2]; rfl
  have hsa3 : s3.safe = st.safe := by rw [hs3, hs2]; exact hsf1
  have hch3 : s3.chg = st.chg ++ [⟨n, ByteArray.empty, some p⟩] := by rw [hs3, hs2]; exact hc1
  refine ⟨trivial, trivial, trivial, rfl, ?_, ?_, ?_, ?_, ?_⟩
  · show dget s3.seen n = _; rw [hse3]; exact hg1
  · show ∀ q ∈ s3.seen, _; rw [hse3]; exact ho1
  · show dget (doAll s3.safe (s3.chg.take s3.chg.length)) n = _
    rw [List.take_length, hsa3, hch3, doAll_snoc]
    exact dget_put_self (doAll_nodup hok.safeN) n p
  · show s3.files p = _; exact hf3
  · intro c hc; simp [settleF] at hc
theorem upGo_keeps {cuts : List Int} {p : Nat} {b : List UInt8} : ∀ {l : List Nat} {i : Nat} {done : List Nat} {f : Nat → Option Fil}, f p = some ⟨b, b.length⟩ → upGo cuts l i done f p = some ⟨b, b.length⟩
  | [], _, _, _, h => h
  | q :: l, i, done, f, h => by
    unfold upGo
    split
    · exact upGo_keeps h
    · refine upGo_keeps ?_
      cases hx : f q with
      | none => exact h
      | some x =>
        simp only
        unfold putFil
        by_cases e : p = q
        · rw [if_pos e]
          subst e
          rw [h] at hx
          injection hx with hx
          subst hx
          have hc : cutN cuts i ⟨b, b.length⟩ = b.length := by
            have h1 := cutN_le (cuts := cuts) (i := i) (x := ⟨b, b.length⟩) (Nat.le_refl _)
            have h2 : b.length ≤ cutN cuts i ⟨b, b.length⟩ := Nat.le_add_right _ _
            have h3 : cutN cuts i ⟨b, b.length⟩ ≤ b.length := h1
            omega
          unfold cutF
          rw [hc, List.take_length]
        · rw [if_neg e]; exact h
/-- Behind any Up it is there. -/
theorem kept_up {st : FSt} {n : ByteArray} {p : Nat} {b : List UInt8} (h : Kept st n p b) (hok : st.Ok) (hn : nameR n = true) (k : Int) (cuts : List Int) : readF (upF st k cuts) n = (b, 0) ∧ (upF st k cuts).down = false := by
  have h1 : dget (upF st k cuts).seen n = some p := by
    show dget (doAll st.safe (st.chg.take (upN st k))) n = some p
    rw [doAll_other hok.safeN (fun c hc => h.chg c (List.mem_of_mem_take hc))]
    exact h.safe
  have h2 : (upF st k cuts).files p = some ⟨b, b.length⟩ := upGo_keeps h.fil
  refine ⟨?_, rfl⟩
  unfold readF
  rw [find_in rfl hn h1]
  simp only
  unfold bytesF
  rw [h2]
end Go.Proofs.YtgehalfnpbjjcaaGreat
