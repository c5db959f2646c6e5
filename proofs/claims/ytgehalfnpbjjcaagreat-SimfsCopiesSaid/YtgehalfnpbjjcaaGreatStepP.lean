/- One call of a script, as plain functions: what becomes of a file system. -/
import Derived.Test.YtgehalfnpbjjcaaGreatAlivePure
import Derived.Test.YtgehalfnpbjjcaaGreatRefI
namespace Go.Proofs.YtgehalfnpbjjcaaGreat
open Go Go.RowKit
/-- What a call of a script makes of a file system. -/
def SRel (st : FSt) (k : Int) (nm to : ByteArray) (b : List UInt8) (n : Int) (st' : FSt) : Prop :=
  if k = 0 then ∃ p, st.files p = none ∧ st' = (createF st nm p).1 else if k = 1 then st' = (appendF st nm b).1 else if k = 3 then st' = (renameF st nm to).1 else if k = 4 then st' = (removeF st nm).1
  else if k = 5 then st' = (fsyncF st nm).1 else if k = 6 then st' = (syncF st).1 else if k = 7 then st' = (armF st n).1 else st' = st
theorem goF_ind {P : FSt → Prop} {st : FSt} {f : FSt → FSt} (h1 : P { st with down := true }) (h2 : P (f (tick st))) : P (goF st f).1 := by
  unfold goF
  split
  · exact h1
  · exact h2
/-- Few entries, few changes. -/
structure FewS (st : FSt) (n : Nat) : Prop where
  a : st.seen.length ≤ n
  b : st.safe.length + st.chg.length ≤ n
theorem FewS.up {st : FSt} {n m : Nat} (h : FewS st n) (hm : n ≤ m) : FewS st m := ⟨Nat.le_trans h.a hm, Nat.le_trans h.b hm⟩
theorem goF_few {st : FSt} {f : FSt → FSt} {M : Nat} (h1 : FewS st M) (h2 : FewS (f (tick st)) M) : FewS (goF st f).1 M := goF_ind (P := fun s => FewS s M) ⟨h1.a, h1.b⟩ h2
theorem FewS.chg {st : FSt} {n : Nat} (h : FewS st n) (c : Chg) : FewS (chgF st c) (n + 1) := ⟨by have := doF_length st.seen c; have := h.a; show (doF st.seen c).length ≤ _; omega, by show st.safe.length + (st.chg ++ [c]).length ≤ _; have := h.b; rw [List.length_append]; simp; omega⟩
theorem doAll_length (d : Dir) : ∀ l : List Chg, (doAll d l).length ≤ d.length + l.length := by
  intro l
  induction l generalizing d with
  | nil => simp [doAll]
  | cons c l ih =>
    have h1 := ih (doF d c)
    have h2 := doF_length d c
    show (doAll (doF d c) l).length ≤ _
    simp only [List.length_cons]
    omega
theorem FewS.settle {st : FSt} {n : Nat} (h : FewS st n) (k : Nat) : FewS (settleF st k) n := ⟨h.a, by
  show (doAll st.safe (st.chg.take k)).length + ([] : List Chg).length ≤ n
  have := doAll_length st.safe (st.chg.take k)
  have := h.b
  have : (st.chg.take k).length ≤ st.chg.length := by rw [List.length_take]; omega
  simp only [List.length_nil]
  omega⟩
theorem FewS.rel {st st' : FSt} {k : Int} {nm to : ByteArray} {b : List UInt8} {n : Int} {N : Nat} (h : FewS st N) (hr : SRel st k nm to b n st') : FewS st' (N + 1) := by
  have h0 : FewS st (N + 1) := h.up (by omega)
  have ht : FewS (tick st) N := ⟨h.a, h.b⟩
  unfold SRel at hr
  split at hr
  · obtain ⟨p, _, rfl⟩ := hr
    unfold createF
    split
    · exact goF_few h0 (FewS.chg (st := { tick st with files := putFil (tick st).files p ⟨[], 0⟩ }) ⟨ht.a, ht.b⟩ _)
    · exact h0
  split at hr
  · subst hr
    unfold appendF
    split
    · split
      · exact h0
      · refine goF_few h0 ?_
        split
        · exact ⟨h0.a, h0.b⟩
        · exact ⟨h0.a, h0.b⟩
    · exact h0
  split at hr
  · subst hr
    unfold renameF
    split
    · exact h0
    · split
      · exact h0
      · split
        · exact goF_few h0 (ht.chg _)
        · exact h0
  split at hr
  · subst hr
    unfold removeF
    split
    · exact goF_few h0 (ht.chg _)
    · exact h0
  split at hr
  · subst hr
    unfold fsyncF
    split
    · refine goF_few h0 ?_
      split
      · exact ⟨h0.a, h0.b⟩
      · exact ⟨h0.a, h0.b⟩
    · exact h0
  split at hr
  · subst hr
    unfold syncF
    split
    · exact h0
    · exact goF_few h0 ((ht.settle _).up (by omega))
  split at hr
  · subst hr
    unfold armF
    split
    · exact h0
    · split
      · exact h0
      · exact ⟨h0.a, h0.b⟩
  · subst hr
    exact h0
/-- The document's. -/
structure FewR (st : RSt) (n : Nat) : Prop where
  a : st.seen.length ≤ n
  b : st.safe.length + 2 * st.chg.length ≤ n
  c : st.files.length ≤ n
theorem FewR.up {st : RSt} {n m : Nat} (h : FewR st n) (hm : n ≤ m) : FewR st m := ⟨Nat.le_trans h.a hm, Nat.le_trans h.b hm, Nat.le_trans h.c hm⟩
theorem rapply_length (l : RDir) (c : RChg) : (rapply l c).length ≤ l.length + 2 := by
  unfold rapply
  split
  · have := rput_length l c.a c.which; omega
  · split
    · have := rput_length l c.a (-1); omega
    · have h1 := rput_length l c.a (-1)
      have h2 := rput_length (rput l c.a (-1)) c.b c.which
      omega
theorem FewR.change {st : RSt} {n : Nat} (h : FewR st n) (c : RChg) : FewR (rchange st c) (n + 2) := ⟨by have := rapply_length st.seen c; have := h.a; show (rapply st.seen c).length ≤ _; omega, by show st.safe.length + 2 * (st.chg ++ [c]).length ≤ _; have := h.b; simp only [List.length_append, List.length_cons, List.length_nil]; omega, by have := h.c; show st.files.length ≤ _; omega⟩
theorem rstepF_ind {P : RSt → Prop} {st : RSt} {f : RSt → RSt} (h1 : P { st with down := true }) (h2 : ∀ s : RSt, s.seen = st.seen → s.chg = st.chg → s.files = st.files → s.safe = st.safe → P (f s)) : P (rstepF st f).1 := by
  unfold rstepF
  split
  · exact h1
  · exact h2 _ rfl rfl rfl rfl
theorem rstepF_few {st : RSt} {f : RSt → RSt} {N M : Nat} (h : FewR st N) (hm : N ≤ M) (h2 : ∀ s : RSt, s.seen = st.seen → s.chg = st.chg → s.files = st.files → s.safe = st.safe → FewR (f s) M) : FewR (rstepF st f).1 M := rstepF_ind (P := fun s => FewR s M) ⟨Nat.le_trans h.a hm, Nat.le_trans h.b hm, Nat.le_trans h.c hm⟩ h2
theorem FewR.of {st s : RSt} {n : Nat} (h : FewR st n) (h1 : s.seen = st.seen) (h2 : s.chg = st.chg) (h3 : s.files = st.files) (h4 : s.safe = st.safe) : FewR s n := ⟨by rw [h1]; exact h.a, by rw [h2, h4]; exact h.b, by rw [h3]; exact h.c⟩
section
variable {st : RSt} {N : Nat}
theorem FewR.create (h : FewR st N) (n : ByteArray) : FewR (rcreate st n).1 (N + 3) := by
  unfold rcreate
  split
  · exact h.up (by omega)
  · split
    · exact h.up (by omega)
    · refine rstepF_few h (by omega) fun s h1 h2 h3 h4 => ?_
      have hs := h.of h1 h2 h3 h4
      exact FewR.change (n := N + 1) ⟨by show s.seen.length ≤ _; have := hs.a; omega, by show s.safe.length + 2 * s.chg.length ≤ _; have := hs.b; omega, by have := hs.c; show (s.files ++ [(⟨[], 0⟩ : RFil)]).length ≤ _; rw [List.length_append]; simp; omega⟩ _
theorem FewR.rename (h : FewR st N) (n m : ByteArray) : FewR (rrename st n m).1 (N + 3) := by
  unfold rrename
  split
  · exact h.up (by omega)
  · split
    · exact h.up (by omega)
    · split
      · exact h.up (by omega)
      · exact rstepF_few h (by omega) fun s h1 h2 h3 h4 => ((h.of h1 h2 h3 h4).change _).up (by omega)
theorem FewR.remove (h : FewR st N) (n : ByteArray) : FewR (rremove st n).1 (N + 3) := by
  unfold rremove
  split
  · exact h.up (by omega)
  · exact rstepF_few h (by omega) fun s h1 h2 h3 h4 => ((h.of h1 h2 h3 h4).change _).up (by omega)
theorem rset_length (l : List RFil) (i : Int) (f : RFil → RFil) : (rset l i f).length = l.length := by unfold rset; simp
theorem FewR.append (h : FewR st N) (n : ByteArray) (b : List UInt8) : FewR (rappend st n b).1 (N + 3) := by
  unfold rappend
  split
  · exact h.up (by omega)
  · split
    · exact h.up (by omega)
    · refine rstepF_few h (by omega) fun s h1 h2 h3 h4 => ?_
      have hs := h.of h1 h2 h3 h4
      exact ⟨Nat.le_trans hs.a (by omega), Nat.le_trans hs.b (by omega), by show (rset _ _ _).length ≤ _; rw [rset_length]; exact Nat.le_trans hs.c (by omega)⟩
theorem FewR.fsync (h : FewR st N) (n : ByteArray) : FewR (rfsync st n).1 (N + 3) := by
  unfold rfsync
  split
  · exact h.up (by omega)
  · refine rstepF_few h (by omega) fun s h1 h2 h3 h4 => ?_
    have hs := h.of h1 h2 h3 h4
    exact ⟨Nat.le_trans hs.a (by omega), Nat.le_trans hs.b (by omega), by show (rset _ _ _).length ≤ _; rw [rset_length]; exact Nat.le_trans hs.c (by omega)⟩
theorem FewR.sync (h : FewR st N) : FewR (rsync st).1 (N + 3) := by
  unfold rsync
  split
  · exact h.up (by omega)
  · refine rstepF_few h (by omega) fun s h1 h2 h3 h4 => ?_
    have hs := h.of h1 h2 h3 h4
    exact ⟨Nat.le_trans hs.a (by omega), by show s.seen.length + 2 * ([] : List RChg).length ≤ _; have := hs.a; simp only [List.length_nil]; omega, Nat.le_trans hs.c (by omega)⟩
theorem FewR.arm (h : FewR st N) (n : Int) : FewR (rarm st n).1 (N + 3) := by
  unfold rarm
  split
  · exact h.up (by omega)
  · split
    · exact h.up (by omega)
    · exact ⟨Nat.le_trans h.a (by omega), Nat.le_trans h.b (by omega), Nat.le_trans h.c (by omega)⟩
end
/-- What one call may make of an armed system. -/
def StepA (st st' : FSt) : Prop :=
  (st'.armed = st.armed ∧ st'.left = st.left ∧ st'.steps = st.steps ∧ st'.down = st.down) ∨
  (st.down = false ∧ st.left = 0 ∧ st'.armed = st.armed ∧ st'.left = st.left ∧ st'.steps = st.steps ∧ st'.down = true) ∨
  (st.down = false ∧ st.left ≠ 0 ∧ st'.armed = st.armed ∧ st'.left = wrap64 (st.left - 1) ∧ st'.steps = wrap64 (st.steps + 1) ∧ st'.down = false)
theorem StepA.same (st : FSt) : StepA st st := .inl ⟨rfl, rfl, rfl, rfl⟩
theorem goF_arm {st : FSt} {f : FSt → FSt} (ha : st.armed = true) (hd : st.down = false) (h : (f (tick st)).armed = (tick st).armed ∧ (f (tick st)).left = (tick st).left ∧ (f (tick st)).steps = (tick st).steps ∧ (f (tick st)).down = (tick st).down) : StepA st (goF st f).1 := by
  unfold goF
  obtain ⟨h1, h2, h3, h4⟩ := h
  split
  · rename_i hc
    exact .inr (.inl ⟨hd, hc.2, rfl, rfl, rfl, rfl⟩)
  · rename_i hc
    refine .inr (.inr ⟨hd, fun hl => hc ⟨ha, hl⟩, ?_, ?_, ?_, ?_⟩)
    · show (f (tick st)).armed = _; rw [h1]; rfl
    · show (f (tick st)).left = _; rw [h2]; rfl
    · show (f (tick st)).steps = _; rw [h3]; rfl
    · show (f (tick st)).down = _; rw [h4]; exact hd
theorem find_up {st : FSt} {n : ByteArray} {f : Int} {o : Option Nat} (h : findF st n = (f, o)) (hf : f = 5 ∨ f = 0) : st.down = false := by
  unfold findF at h
  split at h
  · injection h with h _
    omega
  · rename_i hd
    simpa using hd
theorem SRel.arm {st st' : FSt} {k : Int} {nm to : ByteArray} {b : List UInt8} {n : Int} (hr : SRel st k nm to b n st') (ha : st.armed = true) (hk : k < 7) : StepA st st' := by
  unfold SRel at hr
  split at hr
  · obtain ⟨p, _, rfl⟩ := hr
    unfold createF
    split
    · rename_i h5
      exact goF_arm ha (find_up (f := 5) (o := (findF st nm).2) (by rw [← h5]) (.inl rfl)) ⟨rfl, rfl, rfl, rfl⟩
    · exact StepA.same _
  split at hr
  · subst hr
    unfold appendF
    split
    · rename_i h5
      split
      · exact StepA.same _
      · refine goF_arm ha (find_up h5 (.inr rfl)) ?_
        split
        · exact ⟨rfl, rfl, rfl, rfl⟩
        · exact ⟨rfl, rfl, rfl, rfl⟩
    · exact StepA.same _
  split at hr
  · subst hr
    unfold renameF
    split
    · exact StepA.same _
    · split
      · exact StepA.same _
      · split
        · rename_i h5
          exact goF_arm ha (find_up h5 (.inr rfl)) ⟨rfl, rfl, rfl, rfl⟩
        · exact StepA.same _
  split at hr
  · subst hr
    unfold removeF
    split
    · rename_i h5
      exact goF_arm ha (find_up (f := 0) (o := (findF st nm).2) (by rw [← h5]) (.inr rfl)) ⟨rfl, rfl, rfl, rfl⟩
    · exact StepA.same _
  split at hr
  · subst hr
    unfold fsyncF
    split
    · rename_i h5
      refine goF_arm ha (find_up h5 (.inr rfl)) ?_
      split
      · exact ⟨rfl, rfl, rfl, rfl⟩
      · exact ⟨rfl, rfl, rfl, rfl⟩
    · exact StepA.same _
  split at hr
  · subst hr
    unfold syncF
    split
    · exact StepA.same _
    · rename_i hd
      exact goF_arm ha (by simpa using hd) ⟨rfl, rfl, rfl, rfl⟩
  split at hr
  · omega
  · subst hr
    exact StepA.same _
end Go.Proofs.YtgehalfnpbjjcaaGreat
