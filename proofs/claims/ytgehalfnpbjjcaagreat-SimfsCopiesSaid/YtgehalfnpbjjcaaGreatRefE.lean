/- hayloftref06: ahead, there, step, Arm, SyncDir. NOT WHOLE -/
import Derived.Test.YtgehalfnpbjjcaaGreatRfr
namespace Go.Proofs.YtgehalfnpbjjcaaGreat
open Go Go.RowKit Go.Sort
theorem RSr.head {w : World} {F D : Nat → Prop} {rb : Nat} {st : RSt} (h : RSr w F D rb st) : ∃ vf vs va vc, w.heap[rb]? = some (.cells (rfsC st vf vs va vc) 42 (0, 0)) := by
  obtain ⟨fs, vf, vs, va, vc, e, hb, hh⟩ := h.lies
  exact ⟨vf, vs, va, vc, hh⟩
set_option maxRecDepth 100000 in
theorem r06Ahead_ok {F D : Nat → Prop} {rb : Nat} {st : RSt} (w : World) (h : RSr w F D rb st) (n : ByteArray) : Calls Tryz.prog 57 #[.pointer (some ⟨rb, 0, none⟩), .string n] w fun e w' => e = .returned (.int .i64 (rahead st n)) ∧ w' = w := by
  obtain ⟨vf, vs, va, vc, hh⟩ := h.head
  have c6 : w.cell? ⟨rb, 6, none⟩ = some (.bool st.down) := cell_of_heap hh 6
  have HN := hid (r06Name_ok n w)
  clear h hh
  unfold rahead
  cases hd : st.down with
  | true =>
    rw [hd] at c6
    go_enter Tryz.func57, Tryz.ntmps57
    go_wp2
    go_ret
    exact ⟨rfl, rfl⟩
  | false =>
    rw [hd] at c6
    cases hn : nameR n with
    | true =>
      rw [hn] at HN
      go_enter Tryz.func57, Tryz.ntmps57
      go_wp2_with (go_at_call 75; refine HN.out.mono ?_; rintro e w1 ⟨rfl, rfl⟩)
      go_ret
      exact ⟨rfl, rfl⟩
    | false =>
      rw [hn] at HN
      go_enter Tryz.func57, Tryz.ntmps57
      go_wp2_with (go_at_call 75; refine HN.out.mono ?_; rintro e w1 ⟨rfl, rfl⟩)
      go_ret
      exact ⟨rfl, rfl⟩
/-- The seen directory, to be read. -/
theorem RSr.seen {w : World} {F D : Nat → Prop} {rb : Nat} {st : RSt} (h : RSr w F D rb st) : ∃ a c, w.cell? ⟨rb, 2, none⟩ = some (.slice a st.seen.length c) ∧ Row (fun k => D k → F k) w (.slice a st.seen.length c) st.seen.length 2 (st.seen.flatMap rentC) := by
  obtain ⟨fs, vf, vs, va, vc, e, hb, hh⟩ := h.lies
  obtain ⟨h0, a, c, rfl, hr⟩ := id hb.seen
  exact ⟨a, c, cell_of_heap hh 2, hb.seen⟩
set_option maxRecDepth 100000 in
theorem r06There_ok {F D : Nat → Prop} {rb : Nat} {st : RSt} (w : World) (h : RSr w F D rb st) (hl : st.seen.length ≤ 1000000) (n : ByteArray) : Calls Tryz.prog 61 #[.pointer (some ⟨rb, 0, none⟩), .string n] w fun e w' => e = .returned (.int .i64 (rthere st n)) ∧ w' = w := by
  have HA := hid (r06Ahead_ok w h n)
  obtain ⟨a, c, c2, hr⟩ := h.seen
  have HF := hid (r06Find_ok w st.seen hr n hl)
  clear h hr
  unfold rthere
  generalize rahead st n = A at *
  generalize rfind st.seen n = R at *
  by_cases hA : A = 0
  · subst hA
    by_cases hR : R < 0
    · have t1 : decide (R < 0) = true := decide_eq_true hR
      rw [if_neg (by simp), if_pos hR]
      go_enter Tryz.func61, Tryz.ntmps61
      go_wp2_with (first | (go_at_call 57; refine HA.out.mono ?_; rintro e w1 ⟨rfl, rfl⟩) | (go_at_call 58; refine HF.out.mono ?_; rintro e w2 ⟨rfl, rfl⟩))
      go_ret
      exact ⟨rfl, rfl⟩
    · rw [if_neg (by simp), if_neg hR]
      go_enter Tryz.func61, Tryz.ntmps61
      go_wp2_with (first | (go_at_call 57; refine HA.out.mono ?_; rintro e w1 ⟨rfl, rfl⟩) | (go_at_call 58; refine HF.out.mono ?_; rintro e w2 ⟨rfl, rfl⟩))
      go_ret
      exact ⟨rfl, rfl⟩
  · have t1 : (A != 0) = true := by simpa using hA
    rw [if_pos hA]
    go_enter Tryz.func61, Tryz.ntmps61
    go_wp2_with (go_at_call 57; refine HA.out.mono ?_; rintro e w1 ⟨rfl, rfl⟩)
    go_ret
    exact ⟨rfl, rfl⟩
theorem frH (w : World) (rb i : Nat) (v : Value) : Fr (· = rb) w (w.setCell ⟨rb, i, none⟩ v) := (Fr.refl (· = rb) w).setCell (fun _ => rfl) _
/-- Behind a step: the struct is turned alone. -/
def stepR (st : RSt) : RSt × Int := rstepF st id
theorem rstepF_eq (st : RSt) (f : RSt → RSt) : rstepF st f = if (stepR st).2 = 0 then (f (stepR st).1, 0) else stepR st := by
  unfold stepR rstepF
  by_cases ha : st.armed = 0
  · simp [ha]
  · simp [ha]
theorem RSt.Ok.step {st : RSt} (h : st.Ok) : (stepR st).1.Ok := by
  unfold stepR rstepF
  split
  · exact ⟨h.room0, h.room1, h.seenI, h.safeI, h.chgI, h.fil⟩
  · exact ⟨h.room0, h.room1, h.seenI, h.safeI, h.chgI, h.fil⟩
set_option maxRecDepth 100000 in
theorem r06Step_ok {F D : Nat → Prop} {rb : Nat} {st : RSt} (w : World) (h : RSr w F D rb st) : Calls Tryz.prog 59 #[.pointer (some ⟨rb, 0, none⟩)] w fun e w' => e = .returned (.int .i64 (stepR st).2) ∧ RSr w' F D rb (stepR st).1 ∧ Fr (· = rb) w w' ∧ w'.heap.size = w.heap.size := by
  have HOK := hid h.ok.step
  have HLT := hid h.lt
  obtain ⟨fs, vf, vs, va, vc, he, hb, hh⟩ := h.lies
  have c5 : w.cell? ⟨rb, 5, none⟩ = some (.int .i64 st.armed) := cell_of_heap hh 5
  have c6 : w.cell? ⟨rb, 6, none⟩ = some (.bool st.down) := cell_of_heap hh 6
  have c7 : w.cell? ⟨rb, 7, none⟩ = some (.int .i64 st.count) := cell_of_heap hh 7
  have f5 := frozen_of hh 5
  have f6 := frozen_of hh 6
  have f7 := frozen_of hh 7
  have HB := hid hb
  have HH := hid hh
  have HE := hid he
  clear h hb hh he
  have wr64 : ∀ n : Int, IntKind.i64.wrap n = wrap64 n := IntWalk.i64_left
  unfold stepR rstepF at HOK ⊢
  by_cases ha : st.armed = 0
  · have t1 : (st.armed == 0) = true := by simp [ha]
    rw [if_pos ha] at HOK ⊢
    clear ha
    go_enter Tryz.func59, Tryz.ntmps59
    go_wp2
    go_ret
    have hf : Fr (· = rb) w (w.setCell ⟨rb, 6, none⟩ (.bool true)) := frH _ _ _ _
    have hh := heap_store HH.out 6 (.bool true)
    refine ⟨rfl, ⟨HOK.out, ⟨fs, vf, vs, va, vc, HE.out, HB.out.turnH hf hh, hh.trans rfl⟩, fun k hk => Nat.lt_of_lt_of_le (HLT.out k hk) hf.size⟩, hf, by simp⟩
  · have t1 : (st.armed == 0) = false := by simp [ha]
    rw [if_neg ha] at HOK ⊢
    clear ha
    by_cases hp : 0 < st.armed
    · have t2 : decide (0 < st.armed) = true := decide_eq_true hp
      rw [if_pos hp] at HOK ⊢
      clear hp
      go_enter Tryz.func59, Tryz.ntmps59
      go_wp2
      go_ret
      have hf := (frH w rb 5 (.int .i64 (wrap64 (st.armed - 1)))).trans (frH _ rb 7 (.int .i64 (wrap64 (st.count + 1))))
      have hh := heap_store (heap_store HH.out 5 (.int .i64 (wrap64 (st.armed - 1)))) 7 (.int .i64 (wrap64 (st.count + 1)))
      refine ⟨rfl, ⟨HOK.out, ⟨fs, vf, vs, va, vc, HE.out, HB.out.turnH hf hh, hh.trans rfl⟩, fun k hk => Nat.lt_of_lt_of_le (HLT.out k hk) hf.size⟩, hf, by simp⟩
    · have t2 : decide (0 < st.armed) = false := decide_eq_false hp
      rw [if_neg hp] at HOK ⊢
      clear hp
      go_enter Tryz.func59, Tryz.ntmps59
      go_wp2
      go_ret
      have hf := frH w rb 7 (.int .i64 (wrap64 (st.count + 1)))
      have hh := heap_store HH.out 7 (.int .i64 (wrap64 (st.count + 1)))
      refine ⟨rfl, ⟨HOK.out, ⟨fs, vf, vs, va, vc, HE.out, HB.out.turnH hf hh, hh.trans rfl⟩, fun k hk => Nat.lt_of_lt_of_le (HLT.out k hk) hf.size⟩, hf, by simp⟩
set_option maxRecDepth 100000 in
theorem r06Arm_ok {F D : Nat → Prop} {rb : Nat} {st : RSt} (w : World) (h : RSr w F D rb st) (n : Int) : Calls Tryz.prog 30 #[.pointer (some ⟨rb, 0, none⟩), .int .i64 n] w fun e w' => e = .returned (.int .i64 (rarm st n).2) ∧ ∃ F' D', RSr w' F' D' rb (rarm st n).1 ∧ Turn F D F' D' w w' := by
  have HR := hid h
  obtain ⟨fs, vf, vs, va, vc, he, hb, hh⟩ := h.lies
  have c5 : w.cell? ⟨rb, 5, none⟩ = some (.int .i64 st.armed) := cell_of_heap hh 5
  have c6 : w.cell? ⟨rb, 6, none⟩ = some (.bool st.down) := cell_of_heap hh 6
  have f5 := frozen_of hh 5
  have HB := hid hb
  have HH := hid hh
  have HE := hid he
  clear h hb hh he
  unfold rarm
  cases hd : st.down with
  | true =>
    rw [hd] at c6
    simp only [if_true]
    go_enter Tryz.func30, Tryz.ntmps30
    go_wp2
    go_ret
    exact ⟨rfl, F, D, HR.out, Turn.refl _ _ _⟩
  | false =>
    rw [hd] at c6
    simp only [Bool.false_eq_true, if_false]
    by_cases hn : n < 0
    · have t1 : decide (n < 0) = true := decide_eq_true hn
      rw [if_pos hn]
      go_enter Tryz.func30, Tryz.ntmps30
      go_wp2
      go_ret
      exact ⟨rfl, F, D, HR.out, Turn.refl _ _ _⟩
    · have t1 : decide (n < 0) = false := decide_eq_false hn
      rw [if_neg hn]
      go_enter Tryz.func30, Tryz.ntmps30
      go_wp2
      go_ret
      have hf := frH w rb 5 (.int .i64 n)
      have hh := heap_store HH.out 5 (.int .i64 n)
      have ho := HR.out.ok
      refine ⟨rfl, F, D, ⟨⟨ho.room0, ho.room1, ho.seenI, ho.safeI, ho.chgI, ho.fil⟩, ⟨fs, vf, vs, va, vc, HE.out, HB.out.turnH hf hh, hh.trans ?_⟩, fun k hk => Nat.lt_of_lt_of_le (HR.out.lt k hk) hf.size⟩, hf.mono (fun k _ e => e ▸ HB.out.self), fun _ h => .inl h, fun _ h => .inl h⟩
      unfold rfsC
      rw [hd]
      rfl
set_option maxRecDepth 100000 in
theorem r06Sync_ok {F D : Nat → Prop} {rb : Nat} {st : RSt} (w : World) (h : RSr w F D rb st) : Calls Tryz.prog 28 #[.pointer (some ⟨rb, 0, none⟩)] w fun e w' => e = .returned (.int .i64 (rsync st).2) ∧ ∃ F' D', RSr w' F' D' rb (rsync st).1 ∧ Turn F D F' D' w w' := by
  have HR := hid h
  have HST := hid (r06Step_ok w h)
  obtain ⟨vf, vs, va, vc, hh⟩ := h.head
  have c6 : w.cell? ⟨rb, 6, none⟩ = some (.bool st.down) := cell_of_heap hh 6
  clear h hh
  unfold rsync
  cases hd : st.down with
  | true =>
    rw [hd] at c6
    simp only [if_true]
    go_enter Tryz.func28, Tryz.ntmps28
    go_wp2
    go_ret
    exact ⟨rfl, F, D, HR.out, Turn.refl _ _ _⟩
  | false =>
    rw [hd] at c6
    simp only [Bool.false_eq_true, if_false]
    rw [rstepF_eq]
    generalize stepR st = R at *
    obtain ⟨s1, f1⟩ := R
    simp only at *
    by_cases hf1 : f1 = 0
    · subst hf1
      rw [if_pos rfl]
      go_enter Tryz.func28, Tryz.ntmps28
      go_wp2_with fail
      refine HST.out.mono ?_
      rintro e w1 ⟨rfl, hr1, hf1, hs1⟩
      have HR1 := hid hr1
      have HF1 := hid hf1
      obtain ⟨fs, vf, vs, va, vc, he, hb, hh⟩ := hr1.lies
      obtain ⟨_, a0, c0, rfl, _⟩ := id hb.seen
      obtain ⟨_, aa, ca, rfl, _⟩ := id hb.safe
      obtain ⟨ac, cc, rfl, _⟩ := hb.chg.len
      have c2 : w1.cell? ⟨rb, 2, none⟩ = some (.slice a0 s1.seen.length c0) := cell_of_heap hh 2
      have c3 : w1.cell? ⟨rb, 3, none⟩ = some (.slice aa s1.safe.length ca) := cell_of_heap hh 3
      have c4 : w1.cell? ⟨rb, 4, none⟩ = some (.slice ac s1.chg.length cc) := cell_of_heap hh 4
      have f3 := frozen_of hh 3
      have f4 := frozen_of hh 4
      have HB := hid hb
      have HH := hid hh
      have HE := hid he
      clear hr1 hf1 hs1 he hb hh HST
      go_wp2
      go_ret
      have hf := (frH w1 rb 3 (.slice a0 s1.seen.length c0)).trans (frH _ rb 4 (.slice none 0 0))
      have hh := heap_store (heap_store HH.out 3 (.slice a0 s1.seen.length c0)) 4 (.slice none 0 0)
      have ho := HR1.out.ok
      have hff : Fr F w _ := (HF1.out.trans hf).mono (fun k _ e => e ▸ HB.out.self)
      refine ⟨rfl, F, D, ⟨⟨ho.room0, ho.room1, ho.seenI, ho.seenI, fun c hc => by simp at hc, ho.fil⟩, ⟨fs, vf, _, _, _, HE.out, ((HB.out.setSafe HB.out.seen).noChg).turnH hf hh, hh.trans rfl⟩, fun k hk => Nat.lt_of_lt_of_le (HR1.out.lt k hk) hf.size⟩, hff, fun _ h => .inl h, fun _ h => .inl h⟩
    · have t1 : (f1 != 0) = true := by simpa using hf1
      rw [if_neg hf1]
      go_enter Tryz.func28, Tryz.ntmps28
      go_wp2_with (go_at_call 59; refine HST.out.mono ?_; rintro e w1 ⟨rfl, hr1, hf1, hs1⟩; have HR1 := hid hr1; have HF1 := hid hf1; clear hr1 hf1 hs1)
      go_ret
      have hs : F rb := by obtain ⟨fs, vf, vs, va, vc, he, hb, hh⟩ := HR1.out.lies; exact hb.self
      exact ⟨rfl, F, D, HR1.out, HF1.out.mono (fun k _ e => e ▸ hs), fun _ h => .inl h, fun _ h => .inl h⟩
end Go.Proofs.YtgehalfnpbjjcaaGreat
/- hayloftref06: change. -/
namespace Go.Proofs.YtgehalfnpbjjcaaGreat
open Go Go.RowKit Go.Sort
theorem mem_rput {n : ByteArray} {f : Int} {q : ByteArray × Int} {l : RDir} (h : q ∈ rput l n f) : q ∈ l ∨ (q = (n, f) ∧ 0 ≤ f) := by
  unfold rput at h
  rcases mem_rputGo h with h | ⟨h1, h2⟩
  · exact .inl h
  · exact .inr ⟨h1, by simpa using h2⟩
theorem mem_rapply {l : RDir} {c : RChg} {q : ByteArray × Int} (h : q ∈ rapply l c) : q ∈ l ∨ (c.kind ≠ 2 ∧ q.2 = c.which ∧ (q.1 = c.a ∨ q.1 = c.b)) := by
  unfold rapply at h
  split at h
  · rename_i h1
    rcases mem_rput h with h | ⟨h, _⟩
    · exact .inl h
    · exact .inr ⟨by omega, by rw [h], by rw [h]; exact .inl rfl⟩
  · split at h
    · rcases mem_rput h with h | ⟨_, h⟩
      · exact .inl h
      · omega
    · rename_i h2
      rcases mem_rput h with h | ⟨h, _⟩
      · rcases mem_rput h with h | ⟨_, h⟩
        · exact .inl h
        · omega
      · exact .inr ⟨h2, by rw [h], by rw [h]; exact .inr rfl⟩
theorem RSt.Ok.change {st : RSt} (h : st.Ok) {c : RChg} (ha : c.a.size ≤ 1000000) (hb : c.b.size ≤ 1000000) (hw : c.kind ≠ 2 → 0 ≤ c.which ∧ c.which < st.files.length) : (rchange st c).Ok where
  room0 := h.room0
  room1 := h.room1
  seenI := fun p hp => by
    rcases mem_rapply hp with hp | ⟨h1, h2, h3⟩
    · exact h.seenI p hp
    · have := hw h1
      refine ⟨by omega, by show p.2 < _; rw [h2]; exact this.2, ?_⟩
      rcases h3 with h3 | h3 <;> rw [h3] <;> assumption
  safeI := h.safeI
  chgI := fun x hx => by
    rcases List.mem_append.1 hx with hx | hx
    · exact h.chgI x hx
    · simp at hx; subst hx; exact ⟨ha, hb, hw⟩
  fil := h.fil
theorem etRChg : ET Tryz.prog 40 100 4 48 (.agg #[.int .i64 0, .string ByteArray.empty, .string ByteArray.empty, .int .i64 0]) := ⟨Tryz.underlying40, by kernel_rfl, by kernel_rfl, by decide, by decide⟩
theorem rchgC_one (c : RChg) : ∀ u ∈ rchgC c, u.oneCell' = true := by
  intro u hu
  simp only [rchgC, List.mem_cons, List.not_mem_nil, or_false] at hu
  rcases hu with rfl | rfl | rfl | rfl <;> rfl
set_option maxHeartbeats 1000000 in
set_option maxRecDepth 100000 in
theorem r06Change_ok {F D : Nat → Prop} {rb : Nat} {st : RSt} (w : World) (h : RSr w F D rb st) (hl : st.seen.length ≤ 999990) (hlc : st.chg.length ≤ 999990) (c : RChg) (hca : c.a.size ≤ 1000000) (hcb : c.b.size ≤ 1000000) (hcw : c.kind ≠ 2 → 0 ≤ c.which ∧ c.which < st.files.length) :
    Calls Tryz.prog 60 #[.pointer (some ⟨rb, 0, none⟩), .agg (rchgC c).toArray] w fun e w' => e = .returned (.tuple #[]) ∧ ∃ F' D', RSr w' F' D' rb (rchange st c) ∧ Turn F D F' D' w w' := by
  have mixed : Tryz.prog.follows .mixedOrders = true := by kernel_rfl
  have HOK := hid (h.ok.change hca hcb hcw)
  have hnm : ∀ p ∈ st.seen, p.1.size ≤ 1000000 := fun p hp => (h.ok.seenI p hp).2.2
  have HLT := hid h.lt
  have HLF := hid (fun k (hk : F k) => h.ltF hk)
  obtain ⟨fs, vf, vs, va, vc, he, hb, hh⟩ := h.lies
  obtain ⟨_, a0, c0, rfl, _⟩ := id hb.seen
  obtain ⟨_, aa, ca, rfl, _⟩ := id hb.safe
  obtain ⟨ac, cc, rfl, _⟩ := hb.chg.len
  obtain ⟨w0, hw0⟩ : ∃ w0, w.alloc (.cells (rchgC c).toArray 100) = w0 := ⟨_, rfl⟩
  have hb0 : Below w.heap.size w w0 := by rw [← hw0]; exact (Below.refl _ _).alloc (Nat.le_refl _) _
  have hs0 : w0.heap.size = w.heap.size + 1 := by rw [← hw0]; simp
  have hbx : w0.heap[w.heap.size]? = some (.cells (rchgC c).toArray 100 (0, 0)) := by rw [← hw0]; exact heap_alloc_new w _
  have hrb : rb < w.heap.size := lt_of_heap hh
  have hh0 : w0.heap[rb]? = some (.cells (rfsC st vf (.slice a0 st.seen.length c0) (.slice aa st.safe.length ca) (.slice ac st.chg.length cc)) 42 (0, 0)) := (Fr.of_below hb0 : Fr (fun _ => False) w w0).heap hh id
  have HG := hid ((hb.grow (F' := F) (D' := fun k => D k ∨ w.heap.size ≤ k) (fun _ h => h) (fun _ h => .inl h) (fun k h => .inl (hb.sub k h)) (fun _ _ h => h)).below hb0)
  have HE := hid he
  have HB0 := hid hb0
  have HH0 := hid hh0
  have HBX := hid hbx
  have HS0 := hid hs0
  have HRB := hid hrb
  have AP := hid (r06Apply_ok w0.drew (S := fun k => (D k ∨ w.heap.size ≤ k) → F k) st.seen (HG.out.seen.fr ((Fr.refl (fun _ => False) w0).drew) (fun _ _ h => h.elim)) c (by omega) hnm hca)
  have FA2 := hid (show ∀ W, (Instr.fieldAt 42 (.pointer (some ⟨rb, 0, none⟩)) 2).run Tryz.prog W = .ok (.pointer (some ⟨rb, 2, none⟩)) W from fun W => by go_simp)
  have FA4 := hid (show ∀ W, (Instr.fieldAt 42 (.pointer (some ⟨rb, 0, none⟩)) 4).run Tryz.prog W = .ok (.pointer (some ⟨rb, 4, none⟩)) W from fun W => by go_simp)
  have FL2 := hid (show ∀ W, Below w0.heap.size w0 W → (Instr.loadAt 39 (.pointer (some ⟨rb, 2, none⟩))).run Tryz.prog W = .ok (.slice a0 st.seen.length c0) W from fun W hW => by have hc : W.cell? ⟨rb, 2, none⟩ = some (.slice a0 st.seen.length c0) := cell_of_heap ((Fr.of_below hW : Fr (fun _ => False) w0 W).heap HH0.out id) 2; go_simp)
  have LDB := hid (show ∀ W, W.heap[w.heap.size]? = some (.cells (rchgC c).toArray 100 (0, 0)) → (Instr.loadAt 100 (.pointer (some ⟨w.heap.size, 0, none⟩))).run Tryz.prog W = .ok (.agg (rchgC c).toArray) W from fun W hW => by
    have k0 : W.cell? ⟨w.heap.size, 0, none⟩ = some (.int .i64 c.kind) := cell_of_heap hW 0
    have k1 : W.cell? ⟨w.heap.size, 1, none⟩ = some (.string c.a) := cell_of_heap hW 1
    have k2 : W.cell? ⟨w.heap.size, 2, none⟩ = some (.string c.b) := cell_of_heap hW 2
    have k3 : W.cell? ⟨w.heap.size, 3, none⟩ = some (.int .i64 c.which) := cell_of_heap hW 3
    show _ = Result.ok (Value.agg #[.int .i64 c.kind, .string c.a, .string c.b, .int .i64 c.which]) W
    clear hW
    go_simp)
  have FLB := hid (show ∀ W, Below w0.heap.size w0 W → (Instr.loadAt 100 (.pointer (some ⟨w.heap.size, 0, none⟩))).run Tryz.prog W = .ok (.agg (rchgC c).toArray) W from fun W hW => LDB.out W ((Fr.of_below hW : Fr (fun _ => False) w0 W).heap HBX.out id))
  have HW0 := hid (show w.alloc (.cells #[.int .i64 c.kind, .string c.a, .string c.b, .int .i64 c.which] 100) = w0 from hw0)
  clear h hb hh he hb0 hh0 hbx hs0 hw0 hrb
  show Calls Tryz.prog 60 #[.pointer (some ⟨rb, 0, none⟩), .agg #[.int .i64 c.kind, .string c.a, .string c.b, .int .i64 c.which]] w _
  go_enter Tryz.func60, Tryz.ntmps60
  go_wp2_with fail
  rw [HW0.out]
  have e_ap : ∀ args w, (callFunc 65 args).run Tryz.prog w = .ok (.enter 65 args) w := enters_of Tryz.func65 rfl rfl
  have hS0 : Below w0.heap.size w0 w0.drew := (Below.refl _ _).drew
  refine hg_start (fun W => Below w0.heap.size w0 W) 9 mixed ?_
  refine hgt 0 4 kMove (.tmp 0) (.pointer (some ⟨rb, 0, none⟩)) (by kernel_rfl) (by kernel_rfl) (by kernel_rfl) (by kernel_rfl) (by exact fun _ _ _ h => h) (by kernel_rfl) (by kernel_rfl) hS0 (fun o w' ho hs => ex_move ho (by kernel_rfl)) ?_
  refine hgt 1 5 kMove (.tmp 0) (.pointer (some ⟨rb, 0, none⟩)) (by kernel_rfl) (by kernel_rfl) (by kernel_rfl) (by kernel_rfl) (by exact fun _ _ _ h => h) (by kernel_rfl) (by kernel_rfl) hS0 (fun o w' ho hs => ex_move ho (by kernel_rfl)) ?_
  refine hgt 2 6 kNil (.tmp 5) (.pointer (some ⟨rb, 0, none⟩)) (by kernel_rfl) (by kernel_rfl) (by kernel_rfl) (by kernel_rfl) (by exact fun _ _ _ h => h) (by kernel_rfl) (by kernel_rfl) hS0 (fun o w' ho hs => ex_nil ho (by kernel_rfl)) ?_
  refine hgt 3 7 kFA (42, .tmp 6, 2) (.pointer (some ⟨rb, 2, none⟩)) (by kernel_rfl) (by kernel_rfl) (by kernel_rfl) (by kernel_rfl) (by exact fun _ _ _ h => h) (by kernel_rfl) (by kernel_rfl) hS0 (fun o w' ho hs => ex_fa ho (by kernel_rfl) (FA2.out _)) ?_
  refine hgt 4 8 kLoad (39, .tmp 7) (.slice a0 st.seen.length c0) (by kernel_rfl) (by kernel_rfl) (by kernel_rfl) (by kernel_rfl) (by exact fun _ _ _ h => h) (by kernel_rfl) (by kernel_rfl) hS0 (fun o w' ho hs => ex_load ho (by kernel_rfl) (FL2.out _ hs)) ?_
  refine hgt 5 9 kLoad (100, .tmp 3) (.agg (rchgC c).toArray) (by kernel_rfl) (by kernel_rfl) (by kernel_rfl) (by kernel_rfl) (by exact fun _ _ _ h => h) (by kernel_rfl) (by kernel_rfl) hS0 (fun o w' ho hs => ex_load ho (by kernel_rfl) (FLB.out _ hs)) ?_
  refine hg1 6 (by kernel_rfl) ?_
  refine hg_call 10 65 [.tmp 8, .tmp 9] [.slice a0 st.seen.length c0, .agg (rchgC c).toArray] (by kernel_rfl) (by kernel_rfl) e_ap AP.out ?_
  rintro e w1 ⟨a1, c1, rfl, ho1, hb1⟩
  have hS1 : Below w0.heap.size w0 w1 := Below.below hS0 hb1
  refine ⟨_, rfl, .inr hS1, ?_⟩
  have hh1 := (Fr.of_below hS1 : Fr (fun _ => False) w0 w1).heap HH0.out id
  have FS1 := hid (show (Instr.storeAt 39 (.pointer (some ⟨rb, 2, none⟩)) (.slice a1 (rapply st.seen c).length c1)).run Tryz.prog w1 = .ok () (w1.setCell ⟨rb, 2, none⟩ (.slice a1 (rapply st.seen c).length c1)) from by
    have hc : w1.cell? ⟨rb, 2, none⟩ = some (.slice a0 st.seen.length c0) := cell_of_heap hh1 2
    have hz := frozen_of hh1 2
    go_simp)
  refine hg1 7 (by kernel_rfl) ?_
  refine hg_val 11 kNil (.tmp 4) (.pointer (some ⟨rb, 0, none⟩)) (by kernel_rfl) (fun o ho => ex_nil ho (by kernel_rfl)) (.inr hS1) ?_
  refine hg1 8 (by kernel_rfl) ?_
  refine hg_val 12 kFA (42, .tmp 11, 2) (.pointer (some ⟨rb, 2, none⟩)) (by kernel_rfl) (fun o ho => ex_fa ho (by kernel_rfl) (FA2.out _)) (.inr hS1) ?_
  refine hg1 9 (by kernel_rfl) ?_
  refine hg_store 39 (.tmp 12) (.tmp 10) (.pointer (some ⟨rb, 2, none⟩)) (.slice a1 (rapply st.seen c).length c1) (by kernel_rfl) (by kernel_rfl) (by kernel_rfl) FS1.out (.inl rfl) ?_
  refine hg_done (by kernel_rfl) ?_
  have HS1 := hid hS1
  have hg1 := HG.out.below hS1
  have hs2 : Row (fun k => (D k ∨ w.heap.size ≤ k) → F k) w1 (.slice a1 (rapply st.seen c).length c1) (rapply st.seen c).length 2 ((rapply st.seen c).flatMap rentC) := ho1.row (fun k hk _ hd => by
    have h1 : w0.heap.size ≤ k := hk
    have := HLF.out k (hd (.inr (by have := HS0.out; omega)))
    have := HS0.out
    omega)
  have hh2 := heap_store hh1 2 (.slice a1 (rapply st.seen c).length c1)
  have hf2 := frH w1 rb 2 (.slice a1 (rapply st.seen c).length c1)
  have HG2 := hid ((hg1.setSeen hs2).turnH hf2 hh2)
  have HH2 := hid hh2
  have HF2 := hid (((Fr.of_below (Below.below HB0.out HS1.out) : Fr (fun _ => False) w w1).mono (S' := F) (fun _ _ h => h.elim)).trans (hf2.mono (S' := F) (fun k _ e => e ▸ HG.out.self)))
  have HBX2 := hid (hf2.heap ((Fr.of_below hS1 : Fr (fun _ => False) w0 w1).heap HBX.out id) (fun e => by have := HRB.out; omega))
  obtain ⟨l2, hl2⟩ : ∃ l2, rapply st.seen c = l2 := ⟨_, rfl⟩
  obtain ⟨w2, hw2⟩ : ∃ w2, w1.setCell ⟨rb, 2, none⟩ (.slice a1 l2.length c1) = w2 := ⟨_, rfl⟩
  have HSZ2 := hid (show w1.heap.size = w2.heap.size from by rw [← hw2]; simp)
  rw [hl2, hw2] at HG2 HH2 HBX2 HF2
  rw [hl2, hw2]
  have HL2 := hid hl2
  clear ho1 hb1 hS0 hS1 hh1 FS1 hg1 hs2 hh2 hf2 hl2 hw2 FL2 FLB AP
  go_wp2_with fail
  have hrc : rchange st c = { st with seen := l2, chg := st.chg ++ [c] } := by unfold rchange; rw [HL2.out]
  have HRC := hid hrc
  clear hrc
  have hmn : ∀ k, mine (.slice ac st.chg.length cc) k → k < w.heap.size := fun k hk => HLF.out k (HG2.out.mc k hk)
  have HMN := hid hmn
  have FL4 := hid (show ∀ W, Fr (mine (.slice ac st.chg.length cc)) w2 W → (Instr.loadAt 40 (.pointer (some ⟨rb, 4, none⟩))).run Tryz.prog W = .ok (.slice ac st.chg.length cc) W from fun W hW => by
    have hc : W.cell? ⟨rb, 4, none⟩ = some (.slice ac st.chg.length cc) := cell_of_heap (hW.heap HH2.out (fun hk => HG2.out.ne HG2.out.chg (by decide) hk rfl)) 4
    go_simp)
  have FLB2 := hid (show ∀ W, Fr (mine (.slice ac st.chg.length cc)) w2 W → (Instr.loadAt 100 (.pointer (some ⟨w.heap.size, 0, none⟩))).run Tryz.prog W = .ok (.agg (rchgC c).toArray) W from fun W hW => LDB.out W (hW.heap HBX2.out (fun hk => by have := HMN.out _ hk; omega)))
  have FX := hid (show ∀ W, (Instr.buildSlice 40 1 #[(0, .agg (rchgC c).toArray)]).run Tryz.prog W = .ok (.slice (some ⟨W.heap.size, 0, none⟩) 1 1) (W.alloc (.cells (rchgC c).toArray 100)) from fun W => by
    show _ = Result.ok _ (W.alloc (.cells #[.int .i64 c.kind, .string c.a, .string c.b, .int .i64 c.which] 100))
    unfold rchgC
    go_simp)
  clear hmn
  have hS3 : Fr (mine (.slice ac st.chg.length cc)) w2 w2.drew := (Fr.refl _ w2).drew
  refine hg_start (fun W => Fr (mine (.slice ac st.chg.length cc)) w2 W) 10 mixed ?_
  refine hgt 0 13 kMove (.tmp 0) (.pointer (some ⟨rb, 0, none⟩)) (by kernel_rfl) (by kernel_rfl) (by kernel_rfl) (by kernel_rfl) (by exact fun _ _ _ h => h) (by kernel_rfl) (by kernel_rfl) hS3 (fun o w' ho hs => ex_move ho (by kernel_rfl)) ?_
  refine hgt 1 14 kMove (.tmp 0) (.pointer (some ⟨rb, 0, none⟩)) (by kernel_rfl) (by kernel_rfl) (by kernel_rfl) (by kernel_rfl) (by exact fun _ _ _ h => h) (by kernel_rfl) (by kernel_rfl) hS3 (fun o w' ho hs => ex_move ho (by kernel_rfl)) ?_
  refine hgt 2 15 kNil (.tmp 14) (.pointer (some ⟨rb, 0, none⟩)) (by kernel_rfl) (by kernel_rfl) (by kernel_rfl) (by kernel_rfl) (by exact fun _ _ _ h => h) (by kernel_rfl) (by kernel_rfl) hS3 (fun o w' ho hs => ex_nil ho (by kernel_rfl)) ?_
  refine hgt 3 16 kFA (42, .tmp 15, 4) (.pointer (some ⟨rb, 4, none⟩)) (by kernel_rfl) (by kernel_rfl) (by kernel_rfl) (by kernel_rfl) (by exact fun _ _ _ h => h) (by kernel_rfl) (by kernel_rfl) hS3 (fun o w' ho hs => ex_fa ho (by kernel_rfl) (FA4.out _)) ?_
  refine hgt 4 17 kLoad (40, .tmp 16) (.slice ac st.chg.length cc) (by kernel_rfl) (by kernel_rfl) (by kernel_rfl) (by kernel_rfl) (by exact fun _ _ _ h => h) (by kernel_rfl) (by kernel_rfl) hS3 (fun o w' ho hs => ex_load ho (by kernel_rfl) (FL4.out _ hs)) ?_
  refine hgt 5 18 kLoad (100, .tmp 3) (.agg (rchgC c).toArray) (by kernel_rfl) (by kernel_rfl) (by kernel_rfl) (by kernel_rfl) (by exact fun _ _ _ h => h) (by kernel_rfl) (by kernel_rfl) hS3 (fun o w' ho hs => ex_load ho (by kernel_rfl) (FLB2.out _ hs)) ?_
  refine hg1 6 (by kernel_rfl) ?_
  refine hg_val 19 kBS (40, 1, [(0, .tmp 18)]) _ (by kernel_rfl) (fun o ho => ex_bs (vs := [(0, .agg (rchgC c).toArray)]) ho (by kernel_rfl) (FX.out _)) (.inr (hS3.alloc _)) ?_
  refine hg1 7 (by kernel_rfl) ?_
  refine hg_app 20 (.tmp 17) (.tmp 19) 40 (.slice ac st.chg.length cc) (.slice (some ⟨w2.drew.heap.size, 0, none⟩) 1 1) (by kernel_rfl) (by kernel_rfl) (by kernel_rfl) (fun ty => ?_)
  have hown : Own (w2.drew.alloc (.cells (rchgC c).toArray 100)) 0 100 4 (.slice ac st.chg.length cc) st.chg.length (st.chg.flatMap rchgC) := HG2.out.chg.fr (((Fr.refl (fun _ => False) w2).drew).alloc _) (fun _ _ => id)
  obtain ⟨v5, w5, hrun, ho5, hf5, hm5⟩ := append_mine (ty := ty) etRChg hown (row_new (w := w2.drew) 100 (cs := rchgC c) rfl) (rchgC_one c) (by omega) (Nat.zero_le _)
  obtain ⟨a5, c5, rfl, _⟩ := ho5.len
  have hS5 : Fr (mine (.slice ac st.chg.length cc)) w2 w5 := (hS3.alloc _).trans hf5
  refine ⟨_, _, hrun, .inr hS5, ?_⟩
  have hh5 := hS5.heap HH2.out (fun hk => HG2.out.ne HG2.out.chg (by decide) hk rfl)
  have FST := hid (show (Instr.storeAt 40 (.pointer (some ⟨rb, 4, none⟩)) (.slice a5 (st.chg.length + 1) c5)).run Tryz.prog w5 = .ok () (w5.setCell ⟨rb, 4, none⟩ (.slice a5 (st.chg.length + 1) c5)) from by
    have hc : w5.cell? ⟨rb, 4, none⟩ = some (.slice ac st.chg.length cc) := cell_of_heap hh5 4
    have hz := frozen_of hh5 4
    go_simp)
  refine hg1 8 (by kernel_rfl) ?_
  refine hg_val 21 kNil (.tmp 13) (.pointer (some ⟨rb, 0, none⟩)) (by kernel_rfl) (fun o ho => ex_nil ho (by kernel_rfl)) (.inr hS5) ?_
  refine hg1 9 (by kernel_rfl) ?_
  refine hg_val 22 kFA (42, .tmp 21, 4) (.pointer (some ⟨rb, 4, none⟩)) (by kernel_rfl) (fun o ho => ex_fa ho (by kernel_rfl) (FA4.out _)) (.inr hS5) ?_
  refine hg1 10 (by kernel_rfl) ?_
  refine hg_store 40 (.tmp 22) (.tmp 20) (.pointer (some ⟨rb, 4, none⟩)) (.slice a5 (st.chg.length + 1) c5) (by kernel_rfl) (by kernel_rfl) (by kernel_rfl) FST.out (.inl rfl) ?_
  refine hg_done (by kernel_rfl) ?_
  have sz0 := HB0.out.size
  have sz1 := HS1.out.size
  have sz2 := HSZ2.out
  have hgr := HG2.out.grow (F' := fun k => F k ∨ w2.heap.size ≤ k) (D' := fun k => D k ∨ w.heap.size ≤ k) (fun _ h => .inl h) (fun _ h => h) (fun k h => h.elim (HG2.out.sub k) (fun h => .inr (by omega))) (fun k hk h => h.resolve_right (by omega))
  have hgr5 := (hgr.fr (((Fr.refl (fun _ => False) w2).drew).alloc (.cells (rchgC c).toArray 100)) (fun _ _ => id)).turnC (ch' := st.chg ++ [c]) (vc' := .slice a5 (st.chg.length + 1) c5) hf5 (by simpa using ho5) (fun k hk => (hm5 k hk).elim (fun hk => .inl (HG2.out.mc k hk)) (fun hk => .inr (by
    have h9 : w2.drew.heap.size ≤ k := Nat.le_trans (by simp) hk
    exact h9)))
  have hf6 := frH w5 rb 4 (.slice a5 (st.chg.length + 1) c5)
  have hh6 := heap_store hh5 4 (.slice a5 (st.chg.length + 1) c5)
  have hg6 := hgr5.turnH hf6 hh6
  have HG6 := hid hg6
  have HH6 := hid hh6
  have HF6 := hid ((HF2.out.trans (hS5.mono (S' := F) (fun k _ hk => HG2.out.mc k hk))).trans (hf6.mono (S' := F) (fun k _ e => e ▸ HG2.out.self)))
  clear hown hrun ho5 hf5 hm5 hS5 hh5 FST hgr hgr5 hf6 hh6 hg6 hS3 sz0 sz1 sz2
  go_wp2
  go_end0
  have hok := HOK.out
  rw [HRC.out] at hok ⊢
  refine ⟨rfl, _, _, RSb.shut (st := { st with seen := l2, chg := st.chg ++ [c] }) HG6.out hok HE.out (HH6.out.trans ?_), HF6.out, ?_, ?_⟩
  · show some (Obj.cells #[_, _, _, _, _, _, _, _] _) = some (Obj.cells #[_, _, _, _, _, _, _, _] _)
    simp
  · intro k hk
    have sz0 := HB0.out.size
    have sz1 := HS1.out.size
    have sz2 := HSZ2.out
    exact hk.1.imp id (fun h => by omega)
  · intro k hk
    exact hk.1
end Go.Proofs.YtgehalfnpbjjcaaGreat
/- hayloftref06: Create, Rename, Remove, New. -/
namespace Go.Proofs.YtgehalfnpbjjcaaGreat
open Go Go.RowKit Go.Sort
theorem stepR_same (st : RSt) : (stepR st).1.seen = st.seen ∧ (stepR st).1.chg = st.chg ∧ (stepR st).1.files = st.files ∧ (stepR st).1.safe = st.safe ∧ (stepR st).1.room = st.room := by
  unfold stepR rstepF
  split <;> exact ⟨rfl, rfl, rfl, rfl, rfl⟩
theorem etRFil : ET Tryz.prog 38 97 2 32 (.agg #[.slice none 0 0, .int .i64 0]) := ⟨Tryz.underlying38, by kernel_rfl, by kernel_rfl, by decide, by decide⟩
theorem RSr.self {w : World} {F D : Nat → Prop} {rb : Nat} {st : RSt} (h : RSr w F D rb st) : F rb := by
  obtain ⟨fs, vf, vs, va, vc, he, hb, hh⟩ := h.lies
  exact hb.self
/-- A step that ends a call. -/
theorem RSr.stepped {w w' : World} {F D : Nat → Prop} {rb : Nat} {st : RSt} (h : RSr w' F D rb st) (hf : Fr (· = rb) w w') : Turn F D F D w w' := ⟨hf.mono (fun _ _ e => e ▸ h.self), fun _ h => .inl h, fun _ h => .inl h⟩
theorem rahead_zero {st : RSt} {n : ByteArray} (h : rahead st n = 0) : n.size ≤ 40 := by
  unfold rahead at h
  split at h
  · simp at h
  · split at h
    · rename_i h1
      unfold nameR at h1
      simp only [Bool.and_eq_true, decide_eq_true_eq] at h1
      exact h1.1.2
    · simp at h
set_option maxHeartbeats 1000000 in
set_option maxRecDepth 100000 in
theorem r06Remove_ok {F D : Nat → Prop} {rb : Nat} {st : RSt} (w : World) (h : RSr w F D rb st) (hl : st.seen.length ≤ 999990) (hlc : st.chg.length ≤ 999990) (n : ByteArray) :
    Calls Tryz.prog 26 #[.pointer (some ⟨rb, 0, none⟩), .string n] w fun e w' => e = .returned (.int .i64 (rremove st n).2) ∧ ∃ F' D', RSr w' F' D' rb (rremove st n).1 ∧ Turn F D F' D' w w' := by
  have HT := hid (r06There_ok w h (by omega) n)
  have HST := hid (r06Step_ok w h)
  have HR := hid h
  obtain ⟨g1, g2, g3, g4, g5⟩ := stepR_same st
  have hsz : rthere st n = 0 → n.size ≤ 40 := fun h0 => by
    unfold rthere at h0
    split at h0
    · rename_i h1; exact absurd h0 h1
    · rename_i h1; exact rahead_zero (by simpa using h1)
  have HSZ := hid hsz
  clear h hsz
  unfold rremove
  rw [rstepF_eq]
  generalize rthere st n = A at *
  generalize stepR st = R at *
  obtain ⟨s1, f1⟩ := R
  simp only at *
  by_cases hA : A = 0
  · subst hA
    rw [if_neg (by simp)]
    by_cases hf1 : f1 = 0
    · subst hf1
      rw [if_pos rfl]
      have HS1 := hid (show s1.seen.length ≤ 999990 ∧ s1.chg.length ≤ 999990 by rw [g1, g2]; exact ⟨hl, hlc⟩)
      clear g1 g2 g3 g4 g5
      go_enter Tryz.func26, Tryz.ntmps26
      go_wp2_with (first | (go_at_call 61; refine HT.out.mono ?_; rintro e w1 ⟨rfl, rfl⟩) | (go_at_call 59; refine HST.out.mono ?_; rintro e w2 ⟨rfl, hr1, hf1, hs1⟩; have HR1 := hid hr1; have HF1 := hid hf1; clear hr1 hf1 hs1))
      have HC := hid (r06Change_ok w2 HR1.out HS1.out.1 HS1.out.2 ⟨2, n, ByteArray.empty, 0⟩ (by have := HSZ.out (by first | trivial | rfl); show n.size ≤ 1000000; omega) (Nat.zero_le _) (fun h => absurd rfl h))
      refine (show Calls Tryz.prog 60 #[.pointer (some ⟨rb, 0, none⟩), .agg #[.int .i64 2, .string n, .string ByteArray.empty, .int .i64 0]] w2 _ from HC.out).mono ?_
      rintro e w3 ⟨rfl, F3, D3, hr3, ht3⟩
      have HR3 := hid hr3
      have HT3 := hid ht3
      clear hr3 ht3 HC
      go_wp2
      go_ret
      exact ⟨rfl, F3, D3, HR3.out, (HR1.out.stepped HF1.out).trans HT3.out⟩
    · have t1 : (f1 != 0) = true := by simpa using hf1
      rw [if_neg hf1]
      clear g1 g2 g3 g4 g5
      go_enter Tryz.func26, Tryz.ntmps26
      go_wp2_with (first | (go_at_call 61; refine HT.out.mono ?_; rintro e w1 ⟨rfl, rfl⟩) | (go_at_call 59; refine HST.out.mono ?_; rintro e w2 ⟨rfl, hr1, hf1, hs1⟩; have HR1 := hid hr1; have HF1 := hid hf1; clear hr1 hf1 hs1))
      go_ret
      exact ⟨rfl, F, D, HR1.out, HR1.out.stepped HF1.out⟩
  · have t1 : (A != 0) = true := by simpa using hA
    rw [if_pos hA]
    clear g1 g2 g3 g4 g5
    go_enter Tryz.func26, Tryz.ntmps26
    go_wp2_with (go_at_call 61; refine HT.out.mono ?_; rintro e w1 ⟨rfl, rfl⟩)
    go_ret
    exact ⟨rfl, F, D, HR.out, Turn.refl _ _ _⟩
theorem rfind_mem {l : RDir} {n : ByteArray} (h : 0 ≤ rfind l n) : ∃ p ∈ l, p.1 = n ∧ p.2 = rfind l n := by
  unfold rfind at h ⊢
  cases hg : dget l n with
  | none => rw [hg] at h; simp at h
  | some i => exact ⟨(n, i), mem_of_dget hg, rfl, rfl⟩
set_option maxHeartbeats 1000000 in
set_option maxRecDepth 100000 in
theorem r06Rename_ok {F D : Nat → Prop} {rb : Nat} {st : RSt} (w : World) (h : RSr w F D rb st) (hl : st.seen.length ≤ 999990) (hlc : st.chg.length ≤ 999990) (n m : ByteArray) :
    Calls Tryz.prog 24 #[.pointer (some ⟨rb, 0, none⟩), .string n, .string m] w fun e w' => e = .returned (.int .i64 (rrename st n m).2) ∧ ∃ F' D', RSr w' F' D' rb (rrename st n m).1 ∧ Turn F D F' D' w w' := by
  have HA := hid (r06Ahead_ok w h n)
  have HB := hid (r06Ahead_ok w h m)
  have HT := hid (r06There_ok w h (by omega) n)
  have HST := hid (r06Step_ok w h)
  have HR := hid h
  have HOK := hid h.ok
  obtain ⟨g1, g2, g3, g4, g5⟩ := stepR_same st
  have hsn : rahead st n = 0 → n.size ≤ 40 := rahead_zero
  have hsm : rahead st m = 0 → m.size ≤ 40 := rahead_zero
  have hth : rthere st n = 0 → 0 ≤ rfind st.seen n := fun h0 => by
    unfold rthere at h0
    split at h0
    · rename_i h1; exact absurd h0 h1
    · split at h0
      · simp at h0
      · omega
  have HSN := hid hsn
  have HSM := hid hsm
  have HTH := hid hth
  clear h hsn hsm hth
  unfold rrename
  rw [rstepF_eq]
  generalize rahead st n = A at *
  generalize rahead st m = B at *
  generalize rthere st n = C at *
  generalize stepR st = R at *
  obtain ⟨s1, f1⟩ := R
  simp only at *
  by_cases hA : A = 0
  · subst hA
    rw [if_neg (by simp)]
    by_cases hB : B = 0
    · subst hB
      rw [if_neg (by simp)]
      by_cases hC : C = 0
      · subst hC
        rw [if_neg (by simp)]
        have hfind := HTH.out (by first | trivial | rfl)
        by_cases hf1 : f1 = 0
        · subst hf1
          rw [if_pos rfl]
          have HS1 := hid (show s1.seen.length ≤ 999990 ∧ s1.chg.length ≤ 999990 by rw [g1, g2]; exact ⟨hl, hlc⟩)
          have hw : 0 ≤ rfind s1.seen n ∧ rfind s1.seen n < s1.files.length := by
            rw [g1, g3]
            obtain ⟨p, hp, _, he⟩ := rfind_mem hfind
            have := HOK.out.seenI p hp
            rw [← he]
            exact ⟨this.1, this.2.1⟩
          have HW := hid hw
          clear g1 g2 g3 g4 g5 hfind hw
          go_enter Tryz.func24, Tryz.ntmps24
          go_wp2_with fail
          refine HA.out.mono ?_
          rintro e wa ⟨rfl, rfl⟩
          go_wp2_with fail
          refine HB.out.mono ?_
          rintro e wb ⟨rfl, rfl⟩
          go_wp2_with (first | (go_at_call 61; refine HT.out.mono ?_; rintro e w1 ⟨rfl, rfl⟩) | (go_at_call 59; refine HST.out.mono ?_; rintro e w2 ⟨rfl, hr1, hf1, hs1⟩; have HR1 := hid hr1; have HF1 := hid hf1; obtain ⟨a2, c2, k2, hrow2⟩ := hr1.seen; have HFI := hid (r06Find_ok w2 s1.seen hrow2 n (by have := HS1.out.1; omega)); clear hr1 hf1 hs1 hrow2) | (go_at_call 58; refine HFI.out.mono ?_; rintro e w5 ⟨rfl, rfl⟩))
          have HC := hid (r06Change_ok _ HR1.out HS1.out.1 HS1.out.2 ⟨3, n, m, rfind s1.seen n⟩ (by have := HSN.out (by first | trivial | rfl); show n.size ≤ 1000000; omega) (by have := HSM.out (by first | trivial | rfl); show m.size ≤ 1000000; omega) (fun _ => HW.out))
          refine (show Calls Tryz.prog 60 #[.pointer (some ⟨rb, 0, none⟩), .agg #[.int .i64 3, .string n, .string m, .int .i64 (rfind s1.seen n)]] _ _ from HC.out).mono ?_
          rintro e w3 ⟨rfl, F3, D3, hr3, ht3⟩
          have HR3 := hid hr3
          have HT3 := hid ht3
          clear hr3 ht3 HC
          go_wp2
          go_ret
          exact ⟨rfl, F3, D3, HR3.out, (HR1.out.stepped HF1.out).trans HT3.out⟩
        · have t1 : (f1 != 0) = true := by simpa using hf1
          rw [if_neg hf1]
          clear g1 g2 g3 g4 g5 hfind
          go_enter Tryz.func24, Tryz.ntmps24
          go_wp2_with fail
          refine HA.out.mono ?_
          rintro e wa ⟨rfl, rfl⟩
          go_wp2_with fail
          refine HB.out.mono ?_
          rintro e wb ⟨rfl, rfl⟩
          go_wp2_with (first | (go_at_call 61; refine HT.out.mono ?_; rintro e w1 ⟨rfl, rfl⟩) | (go_at_call 59; refine HST.out.mono ?_; rintro e w2 ⟨rfl, hr1, hf1, hs1⟩; have HR1 := hid hr1; have HF1 := hid hf1; clear hr1 hf1 hs1))
          go_ret
          exact ⟨rfl, F, D, HR1.out, HR1.out.stepped HF1.out⟩
      · have t1 : (C != 0) = true := by simpa using hC
        rw [if_pos hC]
        clear g1 g2 g3 g4 g5
        go_enter Tryz.func24, Tryz.ntmps24
        go_wp2_with fail
        refine HA.out.mono ?_
        rintro e wa ⟨rfl, rfl⟩
        go_wp2_with fail
        refine HB.out.mono ?_
        rintro e wb ⟨rfl, rfl⟩
        go_wp2_with (first | (go_at_call 61; refine HT.out.mono ?_; rintro e w1 ⟨rfl, rfl⟩))
        go_ret
        exact ⟨rfl, F, D, HR.out, Turn.refl _ _ _⟩
    · have t1 : (B != 0) = true := by simpa using hB
      rw [if_pos hB]
      clear g1 g2 g3 g4 g5
      go_enter Tryz.func24, Tryz.ntmps24
      go_wp2_with fail
      refine HA.out.mono ?_
      rintro e wa ⟨rfl, rfl⟩
      go_wp2_with fail
      refine HB.out.mono ?_
      rintro e wb ⟨rfl, rfl⟩
      go_wp2_with fail
      go_ret
      exact ⟨rfl, F, D, HR.out, Turn.refl _ _ _⟩
  · have t1 : (A != 0) = true := by simpa using hA
    rw [if_pos hA]
    clear g1 g2 g3 g4 g5
    go_enter Tryz.func24, Tryz.ntmps24
    go_wp2_with (go_at_call 57; refine HA.out.mono ?_; rintro e w1 ⟨rfl, rfl⟩)
    go_ret
    exact ⟨rfl, F, D, HR.out, Turn.refl _ _ _⟩
set_option maxHeartbeats 1000000 in
set_option maxRecDepth 100000 in
theorem r06Create_ok {F D : Nat → Prop} {rb : Nat} {st : RSt} (w : World) (h : RSr w F D rb st) (hl : st.seen.length ≤ 999990) (hlc : st.chg.length ≤ 999990) (hlf : st.files.length ≤ 999990) (n : ByteArray) :
    Calls Tryz.prog 18 #[.pointer (some ⟨rb, 0, none⟩), .string n] w fun e w' => e = .returned (.int .i64 (rcreate st n).2) ∧ ∃ F' D', RSr w' F' D' rb (rcreate st n).1 ∧ Turn F D F' D' w w' := by
  have HA := hid (r06Ahead_ok w h n)
  have HST := hid (r06Step_ok w h)
  have HR := hid h
  obtain ⟨g1, g2, g3, g4, g5⟩ := stepR_same st
  have hsn : rahead st n = 0 → n.size ≤ 40 := rahead_zero
  have HSN := hid hsn
  obtain ⟨a0, c0, k0, hrow0⟩ := h.seen
  have HF0 := hid (r06Find_ok w st.seen hrow0 n (by omega))
  clear h hsn hrow0
  unfold rcreate
  rw [rstepF_eq]
  generalize rahead st n = A at *
  generalize rfind st.seen n = B at *
  generalize stepR st = R at *
  obtain ⟨s1, f1⟩ := R
  simp only at *
  by_cases hA : A = 0
  · subst hA
    rw [if_neg (by simp)]
    by_cases hB : 0 ≤ B
    · rw [if_pos hB]
      have t1 : decide (0 ≤ B) = true := decide_eq_true hB
      clear g1 g2 g3 g4 g5
      go_enter Tryz.func18, Tryz.ntmps18
      go_wp2_with (first | (go_at_call 57; refine HA.out.mono ?_; rintro e w1 ⟨rfl, rfl⟩) | (go_at_call 58; refine HF0.out.mono ?_; rintro e w5 ⟨rfl, rfl⟩))
      go_ret
      exact ⟨rfl, F, D, HR.out, Turn.refl _ _ _⟩
    · rw [if_neg hB]
      have t1 : decide (0 ≤ B) = false := decide_eq_false hB
      by_cases hf1 : f1 = 0
      · subst hf1
        rw [if_pos rfl]
        have HS1 := hid (show s1.seen.length ≤ 999990 ∧ s1.chg.length ≤ 999990 ∧ s1.files.length ≤ 999990 by rw [g1, g2, g3]; exact ⟨hl, hlc, hlf⟩)
        clear g1 g2 g3 g4 g5
        go_enter Tryz.func18, Tryz.ntmps18
        go_wp2_with (first | (go_at_call 57; refine HA.out.mono ?_; rintro e w1 ⟨rfl, rfl⟩) | (go_at_call 58; refine HF0.out.mono ?_; rintro e w5 ⟨rfl, rfl⟩))
        refine HST.out.mono ?_
        rintro e w2 ⟨rfl, hr1, hf1, hs1⟩
        have HR1 := hid hr1
        have HF1 := hid hf1
        have HLF := hid (fun k (hk : F k) => hr1.ltF hk)
        obtain ⟨fs, vf, vs, va, vc, he, hb, hh⟩ := hr1.lies
        obtain ⟨af, cf, rfl, _⟩ := hb.files.len
        have hfl : fs.length = s1.files.length := by rw [← he]; simp
        have k1 : w2.cell? ⟨rb, 1, none⟩ = some (.slice af fs.length cf) := cell_of_heap hh 1
        have HB := hid hb
        have HH := hid hh
        have HE := hid he
        have HFL := hid hfl
        have hnew := row_new (w := w2) 97 (cs := [.slice none 0 0, .int .i64 0]) (k := 2) rfl
        obtain ⟨w3, hw3⟩ : ∃ w3, w2.alloc (.cells #[.slice none 0 0, .int .i64 0] 97) = w3 := ⟨_, rfl⟩
        have hf3 : Fr (fun _ => False) w2 w3 := by rw [← hw3]; exact (Fr.refl _ _).alloc _
        have HN3 := hid (show Row (fun _ => False) w3 (.slice (some ⟨w2.heap.size, 0, none⟩) 1 1) 1 2 [.slice none 0 0, .int .i64 0] from by rw [← hw3]; exact hnew)
        have HO3 := hid (hb.files.fr hf3 (fun _ _ => id))
        have HW3 := hid hw3
        have hfs : fs.length ≤ 999990 := by rw [hfl]; exact HS1.out.2.2
        have HK := hid (show ∀ W, Fr (mine (.slice af fs.length cf)) w3 W → W.heap[rb]? = some (.cells (rfsC s1 (.slice af fs.length cf) vs va vc) 42 (0, 0)) ∧ W.cell? ⟨rb, 1, none⟩ = some (.slice af fs.length cf) ∧ W.frozen? ⟨rb, 1, none⟩ = false from fun W hW => by
          have h1 := hW.heap (hf3.heap hh id) (fun hk => hb.ne hb.files (by decide) hk rfl)
          exact ⟨h1, cell_of_heap h1 1, frozen_of h1 1⟩)
        have HF3 := hid hf3
        clear hr1 hf1 hs1 he hb hh hfl hnew hw3 hf3
        go_wp2_with (at_builtin; rw [HW3.out]; refine wpl_append (S := fun _ => False) (base := 0) (n := fs.length) (xs := fs.flatMap rfilC) (news := [.slice none 0 0, .int .i64 0]) (m := 1) rfl rfl etRFil rfl HO3.out rfl HN3.out (by intro u hu; simp at hu; rcases hu with rfl | rfl <;> rfl) (by omega) (Nat.zero_le _) ?_; intro v7 w7 ho7 hf7 hm7; obtain ⟨a7, c7, rfl, _⟩ := ho7.len; have HO7 := hid ho7; have HF7 := hid hf7; have HM7 := hid hm7; obtain ⟨hh7, k17, z17⟩ := HK.out _ hf7; have HH7 := hid hh7; clear ho7 hf7 hm7 hh7)
        have sz3 := HF3.out.size
        have hgr := HB.out.grow (F' := fun k => F k ∨ w2.heap.size ≤ k) (D' := fun k => D k ∨ w2.heap.size ≤ k) (fun _ h => .inl h) (fun _ h => .inl h) (fun k h => h.imp (HB.out.sub k) id) (fun k hk h => h.resolve_right (by omega))
        have hgr3 := hgr.fr HF3.out (fun _ _ => id)
        have hgr7 := hgr3.turnF (fs' := fs ++ [(.slice none 0 0, ⟨[], 0⟩)]) (vf' := .slice a7 (fs.length + 1) c7) HF7.out (by simpa [rfilC] using HO7.out) (fun p hp => by
          rcases List.mem_append.1 hp with hp | hp
          · exact hgr3.eachF HF7.out p hp
          · simp at hp
            subst hp
            exact Bs.nil _ _) (fun k hk => (HM7.out k hk).elim (fun hk => .inl (HB.out.mf k hk)) (fun hk => .inr (by omega)))
        have hf8 := frH w7 rb 1 (.slice a7 (fs.length + 1) c7)
        have hh8 := heap_store HH7.out 1 (.slice a7 (fs.length + 1) c7)
        have ho1 := HR1.out.ok
        have hok2 : ({ s1 with files := s1.files ++ [⟨[], 0⟩] } : RSt).Ok := ⟨ho1.room0, ho1.room1, fun p hp => by
          have := ho1.seenI p hp
          refine ⟨this.1, ?_, this.2.2⟩
          show p.2 < ((s1.files ++ [(⟨[], 0⟩ : RFil)]).length : Int)
          rw [List.length_append]
          have := this.2.1
          simp only [List.length_cons, List.length_nil]
          omega, fun p hp => by
          have := ho1.safeI p hp
          refine ⟨this.1, ?_, this.2.2⟩
          show p.2 < ((s1.files ++ [(⟨[], 0⟩ : RFil)]).length : Int)
          rw [List.length_append]
          have := this.2.1
          simp only [List.length_cons, List.length_nil]
          omega, fun c hc => by
          have := ho1.chgI c hc
          refine ⟨this.1, this.2.1, fun hk => ⟨(this.2.2 hk).1, ?_⟩⟩
          show c.which < ((s1.files ++ [(⟨[], 0⟩ : RFil)]).length : Int)
          rw [List.length_append]
          have := (this.2.2 hk).2
          simp only [List.length_cons, List.length_nil]
          omega, fun x hx => by
          rcases List.mem_append.1 hx with hx | hx
          · exact ho1.fil x hx
          · simp at hx
            subst hx
            exact ⟨Int.le_refl _, Int.le_refl _, Nat.zero_le _⟩⟩
        have hr8 := RSb.shut (st := { s1 with files := s1.files ++ [⟨[], 0⟩] }) (hgr7.turnH hf8 hh8) hok2 (by simp [HE.out]) (hh8.trans rfl)
        have HT8 := hid (show Turn F D (fun k => (F k ∨ w2.heap.size ≤ k) ∧ k < (w7.setCell ⟨rb, 1, none⟩ (.slice a7 (fs.length + 1) c7)).heap.size) (fun k => (D k ∨ w2.heap.size ≤ k) ∧ k < (w7.setCell ⟨rb, 1, none⟩ (.slice a7 (fs.length + 1) c7)).heap.size) w5 (w7.setCell ⟨rb, 1, none⟩ (.slice a7 (fs.length + 1) c7)) from ⟨((HR1.out.stepped HF1.out).fr.trans ((HF3.out.mono (S' := F) (fun _ _ h => h.elim)).trans (HF7.out.mono (S' := F) (fun k _ hk => HB.out.mf k hk)))).trans (hf8.mono (S' := F) (fun k _ e => e ▸ HB.out.self)), fun k hk => hk.1.imp id (fun h => Nat.le_trans HF1.out.size h), fun k hk => hk.1.imp id (fun h => Nat.le_trans HF1.out.size h)⟩)
        have HR8 := hid hr8
        have HC := hid (r06Change_ok _ HR8.out HS1.out.1 HS1.out.2.1 ⟨1, n, ByteArray.empty, (s1.files.length : Int)⟩ (by have := HSN.out (by first | trivial | rfl); show n.size ≤ 1000000; omega) (Nat.zero_le _) (fun _ => ⟨by show (0 : Int) ≤ (s1.files.length : Int); omega, by
          show (s1.files.length : Int) < ((s1.files ++ [(⟨[], 0⟩ : RFil)]).length : Int)
          rw [List.length_append]
          simp only [List.length_cons, List.length_nil]
          omega⟩))
        clear hgr hgr3 hgr7 hf8 hh8 ho1 hok2 hr8 sz3
        have hv : (Value.int .i64 (fs.length : Int)) = .int .i64 (s1.files.length : Int) := by rw [HFL.out]
        rw [hv]
        refine (show Calls Tryz.prog 60 #[.pointer (some ⟨rb, 0, none⟩), .agg #[.int .i64 1, .string n, .string ByteArray.empty, .int .i64 (s1.files.length : Int)]] _ _ from HC.out).mono ?_
        rintro e w9 ⟨rfl, F9, D9, hr9, ht9⟩
        have HR9 := hid hr9
        have HT9 := hid ht9
        clear hr9 ht9 HC
        go_wp2
        go_ret
        exact ⟨rfl, F9, D9, HR9.out, HT8.out.trans HT9.out⟩
      · have t2 : (f1 != 0) = true := by simpa using hf1
        rw [if_neg hf1]
        clear g1 g2 g3 g4 g5
        go_enter Tryz.func18, Tryz.ntmps18
        go_wp2_with (first | (go_at_call 57; refine HA.out.mono ?_; rintro e w1 ⟨rfl, rfl⟩) | (go_at_call 58; refine HF0.out.mono ?_; rintro e w5 ⟨rfl, rfl⟩) | (go_at_call 59; refine HST.out.mono ?_; rintro e w2 ⟨rfl, hr1, hf1, hs1⟩; have HR1 := hid hr1; have HF1 := hid hf1; clear hr1 hf1 hs1))
        go_ret
        exact ⟨rfl, F, D, HR1.out, HR1.out.stepped HF1.out⟩
  · have t1 : (A != 0) = true := by simpa using hA
    rw [if_pos hA]
    clear g1 g2 g3 g4 g5
    go_enter Tryz.func18, Tryz.ntmps18
    go_wp2_with (go_at_call 57; refine HA.out.mono ?_; rintro e w1 ⟨rfl, rfl⟩)
    go_ret
    exact ⟨rfl, F, D, HR.out, Turn.refl _ _ _⟩
end Go.Proofs.YtgehalfnpbjjcaaGreat
