/- simfs: Create. -/
import Derived.Test.YtgehalfnpbjjcaaGreatSimD
namespace Go.Proofs.YtgehalfnpbjjcaaGreat
open Go Go.RowKit Go.Sort
theorem FSo.done {w w1 w' : World} {F D F1 D1 : Nat → Prop} {sb m1 m2 : Nat} {st : FSt} {ch : Value} (h : FSo w' F1 D1 sb st m1 m2 ch) (hok : st.Ok) (hb : Below w.heap.size w w1) (hf : Fr F1 w1 w') (h1 : ∀ k, F1 k → F k ∨ w1.heap.size ≤ k) (h2 : ∀ k, D1 k → D k ∨ w1.heap.size ≤ k) :
    ∃ F' D', FSr w' F' D' sb st ∧ Turn F D F' D' w w' :=
  ⟨_, _, h.shut hok, ⟨(Fr.of_below hb).trans' hf (fun k hk hF => (h1 k hF).resolve_right (by have := hb.size; omega)), fun k hk => (h1 k hk.1).imp id (fun h => Nat.le_trans hb.size h), fun k hk => (h2 k hk.1).imp id (fun h => Nat.le_trans hb.size h)⟩⟩
theorem FSr.same {w w' : World} {F D : Nat → Prop} {sb : Nat} {st : FSt} (h : FSr w F D sb st) (hb : Below w.heap.size w w') : ∃ F' D', FSr w' F' D' sb st ∧ Turn F D F' D' w w' := ⟨F, D, h.below hb, Turn.of_below hb⟩
theorem FSr.fresh {w : World} {F D : Nat → Prop} {sb : Nat} {st : FSt} (h : FSr w F D sb st) {p : Nat} (hp : w.heap.size ≤ p) : st.files p = none := by
  obtain ⟨m1, m2, ca, cc, ho⟩ := h.lies
  cases hf : st.files p with
  | none => rfl
  | some x =>
    have := h.lt p (ho.sub p (ho.files p x hf).1)
    omega
theorem FSr.sb_lt {w : World} {F D : Nat → Prop} {sb : Nat} {st : FSt} (h : FSr w F D sb st) : sb < w.heap.size := by
  obtain ⟨m1, m2, ca, cc, ho⟩ := h.lies
  exact lt_of_heap ho.head
set_option maxRecDepth 100000 in
theorem fsCreate1_ok {F D : Nat → Prop} {sb m1 m2 : Nat} {s : FSt} {ca : Option Addr} {cc : Nat} (w : World) (h : FSo w F D sb s m1 m2 (.slice ca s.chg.length cc)) (hw : ∀ k, w.heap.size ≤ k → F k) (hlen : s.chg.length ≤ 1000000) (b1 b2 : Nat) (n : ByteArray)
    (k1 : w.cell? ⟨b1, 0, none⟩ = some (.pointer (some ⟨sb, 0, none⟩))) (k2 : w.cell? ⟨b2, 0, none⟩ = some (.string n)) :
    Calls Tryz.prog 48 #[.pointer (some ⟨b1, 0, none⟩), .pointer (some ⟨b2, 0, none⟩)] w fun e w' => e = .returned (.tuple #[]) ∧
      (∃ ca' cc', FSo w' F D sb (chgF { s with files := putFil s.files w.heap.size ⟨[], 0⟩ } ⟨n, ByteArray.empty, some w.heap.size⟩) m1 m2 (.slice ca' (chgF { s with files := putFil s.files w.heap.size ⟨[], 0⟩ } ⟨n, ByteArray.empty, some w.heap.size⟩).chg.length cc')) ∧ Fr F w w' := by
  have hb0 : Below w.heap.size w (w.alloc (.cells #[.slice none 0 0, .int .i64 0] 87)) := (Below.refl _ _).alloc (Nat.le_refl _) _
  have ha := (h.below hb0).addFile (p := w.heap.size) (x := (⟨[], 0⟩ : Fil)) (v := .slice none 0 0) (hw _ (Nat.le_refl _)) (heap_alloc_new w _) (Bs.nil _ _)
  have hc := fsChange_ok _ ha (fun k hk => hw k (Nat.le_trans hb0.size hk)) hlen ⟨n, ByteArray.empty, some w.heap.size⟩
  have HC := hid hc
  have HB := hid hb0
  clear hc ha hb0 h hw hlen
  go_enter Tryz.func48, Tryz.ntmps48
  go_wp2_with (go_at_call 49; refine HC.out.mono ?_; rintro e w2 ⟨rfl, hq, hf⟩; have HQ := hid hq; have HF := hid hf; clear hq hf)
  go_end0
  exact ⟨rfl, HQ.out, (Fr.of_below HB.out).trans HF.out⟩
theorem findF_name {st : FSt} {n : ByteArray} {f : Int} {o : Option Nat} (h : findF st n = (f, o)) (hf : f = 0 ∨ f = 5) : nameR n = true := by
  unfold findF at h
  split at h
  · injection h with h _; omega
  · split at h
    · rename_i hn; exact hn
    · injection h with h _; omega
set_option maxHeartbeats 1000000 in
set_option maxRecDepth 100000 in
theorem fsCreate_ok {F D : Nat → Prop} {sb : Nat} {st : FSt} (w : World) (h : FSr w F D sb st) (hlen : st.chg.length ≤ 1000000) (n : ByteArray) :
    Calls Tryz.prog 13 #[.pointer (some ⟨sb, 0, none⟩), .string n] w fun e w' => ∃ p, st.files p = none ∧ e = .returned (.int .i64 (createF st n p).2) ∧ ∃ F' D', FSr w' F' D' sb (createF st n p).1 ∧ Turn F D F' D' w w' := by
  obtain ⟨w0, hw0⟩ : ∃ w0, w0 = (w.alloc (.cells #[.pointer (some ⟨sb, 0, none⟩)] 25)).alloc (.cells #[.string n] 9) := ⟨_, rfl⟩
  have hb0 : Below w.heap.size w w0 := by rw [hw0]; exact ((Below.refl _ _).alloc (Nat.le_refl _) _).alloc (by simp) _
  have hx1 : w0.heap[w.heap.size]? = some (.cells #[.pointer (some ⟨sb, 0, none⟩)] 25 (0, 0)) := by rw [hw0]; exact (Below.heap_alloc _ _ _ (by simp)).trans (heap_alloc_new w _)
  have hx2 : w0.heap[w.heap.size + 1]? = some (.cells #[.string n] 9 (0, 0)) := by rw [hw0]; have := heap_alloc_new (w.alloc (.cells #[.pointer (some ⟨sb, 0, none⟩)] 25)) (.cells #[.string n] 9 (0, 0)); simpa using this
  have hsb := h.sb_lt
  have q1 : w0.cell? ⟨w.heap.size, 0, none⟩ = some (.pointer (some ⟨sb, 0, none⟩)) := cell_of_heap hx1 0
  have q2 : w0.cell? ⟨w.heap.size + 1, 0, none⟩ = some (.string n) := cell_of_heap hx2 0
  have HF := hid (fsFind_ok w0 (h.below hb0) n)
  have hl1 := lt_of_heap hx1
  have hl2 := lt_of_heap hx2
  have HB0 := hid hb0
  have HH := hid h
  have HL := hid hlen
  clear hb0 hx1 hx2 h hlen
  have hmf : ∀ (fn : Fn) (first cap : Array Value) (w : World), (Instr.makeFunc fn first cap).run Tryz.prog w = .ok (.func fn first cap) w := fun _ _ _ _ => rfl
  obtain ⟨f, o, hfo⟩ : ∃ f o, findF st n = (f, o) := ⟨(findF st n).1, (findF st n).2, rfl⟩
  have hc : ∀ p, createF st n p = if f = 5 then goF st fun s => chgF { s with files := putFil s.files p ⟨[], 0⟩ } ⟨n, ByteArray.empty, some p⟩ else (st, if f = 0 then 6 else f) := fun p => by unfold createF; rw [hfo]
  rw [hfo] at HF
  have HC := hid hc
  have HNM := hid (fun hf => findF_name hfo hf)
  clear hc hfo
  unfold findC at HF
  generalize Option.map (fun p => (⟨p, 0, none⟩ : Addr)) o = po at HF
  by_cases h5 : f = 5
  · subst h5
    have HST := hid (show ∀ w1, Below w0.heap.size w0 w1 → Calls Tryz.prog 47 #[.pointer (some ⟨sb, 0, none⟩), .func (.func 48) #[] #[.pointer (some ⟨w.heap.size, 0, none⟩), .pointer (some ⟨w.heap.size + 1, 0, none⟩)]] w1 fun e w' => ∃ p, st.files p = none ∧ e = .returned (.int .i64 (createF st n p).2) ∧ ∃ F' D', FSr w' F' D' sb (createF st n p).1 ∧ Turn F D F' D' w w' from fun w1 hb1 => by
      have hb := Below.below HB0.out hb1
      obtain ⟨m1, m2, ca, cc, ho⟩ := (HH.out.below hb).lies
      have hs1 := hb1.size
      refine (fsStep_ok w1 ho.growF 48 #[.pointer (some ⟨w.heap.size, 0, none⟩), .pointer (some ⟨w.heap.size + 1, 0, none⟩)] (enters_of Tryz.func48 rfl rfl)
        (fun w' => ∃ ca' cc', FSo w' (fun k => F k ∨ w1.heap.size ≤ k) (fun k => D k ∨ w1.heap.size ≤ k) sb (chgF { tick st with files := putFil st.files w1.heap.size ⟨[], 0⟩ } ⟨n, ByteArray.empty, some w1.heap.size⟩) m1 m2 (.slice ca' (chgF { tick st with files := putFil st.files w1.heap.size ⟨[], 0⟩ } ⟨n, ByteArray.empty, some w1.heap.size⟩).chg.length cc') ∧ Fr (fun k => F k ∨ w1.heap.size ≤ k) w1 w') (fun w2 h2 hf2 hs2 => ?_)).mono ?_
      · have hcl := fsCreate1_ok w2 h2 (fun k hk => .inr (by omega)) HL.out w.heap.size (w.heap.size + 1) n
          ((hf2.cell (p := ⟨w.heap.size, 0, none⟩) (show w.heap.size < _ by omega) (fun e => absurd (show w.heap.size = sb from e) (by omega))).trans ((hb1.cell (p := ⟨w.heap.size, 0, none⟩) hl1).trans q1))
          ((hf2.cell (p := ⟨w.heap.size + 1, 0, none⟩) (show w.heap.size + 1 < _ by omega) (fun e => absurd (show w.heap.size + 1 = sb from e) (by omega))).trans ((hb1.cell (p := ⟨w.heap.size + 1, 0, none⟩) hl2).trans q2))
        rw [hs2] at hcl
        refine hcl.mono ?_
        rintro e w3 ⟨rfl, ⟨ca', cc', h3⟩, hf3⟩
        exact ⟨rfl, ca', cc', h3, (hf2.mono (fun k _ e => e ▸ ho.growF.self)).trans hf3⟩
      · rintro e w' (⟨ha, hl, rfl, hd, hf⟩ | ⟨hn, rfl, ca', cc', h3, hf3⟩)
        · have hg : createF st n w1.heap.size = ({ st with down := true }, 12) := by rw [HC.out, if_pos rfl]; exact if_pos ⟨ha, hl⟩
          refine ⟨w1.heap.size, HH.out.fresh hb.size, by rw [hg], ?_⟩
          rw [hg]
          exact hd.done HH.out.ok.fall hb (hf.mono (fun k _ e => e ▸ ho.growF.self)) (fun k h => h) (fun k h => h)
        · have hg : createF st n w1.heap.size = (chgF { tick st with files := putFil st.files w1.heap.size ⟨[], 0⟩ } ⟨n, ByteArray.empty, some w1.heap.size⟩, 0) := by rw [HC.out, if_pos rfl]; exact if_neg hn
          refine ⟨w1.heap.size, HH.out.fresh hb.size, by rw [hg], ?_⟩
          rw [hg]
          refine h3.done ?_ hb hf3 (fun k h => h) (fun k h => h)
          exact (HH.out.ok.tick.put (p := w1.heap.size) (x := ⟨[], 0⟩) ⟨Nat.le_refl _, by simp⟩).change (HNM.out (.inr rfl)) (fun p hp => by injection hp with hp; subst hp; simp [putFil]))
    go_enter Tryz.func13, Tryz.ntmps13
    go_wp2_with (first | (go_at_call 40; rw [← hw0]; refine HF.out.mono ?_; rintro e w1 ⟨rfl, hb1⟩; have HB1 := hid hb1; have k1 := (hb1.cell (p := ⟨w.heap.size, 0, none⟩) hl1).trans q1; have k2 := (hb1.cell (p := ⟨w.heap.size + 1, 0, none⟩) hl2).trans q2; clear hb1) | (go_at_call 47; refine (HST.out w1 HB1.out).mono ?_; rintro e w2 ⟨p, hp, rfl, hr⟩; have HR := hid (And.intro hp hr); clear hp hr))
    go_ret
    exact ⟨p, HR.out.1, rfl, HR.out.2⟩
  · have g5 : (f == 5) = false := by simpa using h5
    by_cases h0 : f = 0
    · subst h0
      go_enter Tryz.func13, Tryz.ntmps13
      go_wp2_with (go_at_call 40; rw [← hw0]; refine HF.out.mono ?_; rintro e w1 ⟨rfl, hb1⟩; have HB1 := hid hb1; clear hb1)
      go_ret
      refine ⟨w.heap.size, HH.out.fresh (Nat.le_refl _), by rw [HC.out]; rfl, ?_⟩
      rw [HC.out]
      exact HH.out.same (Below.below HB0.out HB1.out)
    · have g0 : (f == 0) = false := by simpa using h0
      go_enter Tryz.func13, Tryz.ntmps13
      go_wp2_with (go_at_call 40; rw [← hw0]; refine HF.out.mono ?_; rintro e w1 ⟨rfl, hb1⟩; have HB1 := hid hb1; clear hb1)
      go_ret
      refine ⟨w.heap.size, HH.out.fresh (Nat.le_refl _), by rw [HC.out, if_neg h5, if_neg h0]; rfl, ?_⟩
      rw [HC.out, if_neg h5]
      exact HH.out.same (Below.below HB0.out HB1.out)
end Go.Proofs.YtgehalfnpbjjcaaGreat
/- simfs: Remove, Rename. -/
namespace Go.Proofs.YtgehalfnpbjjcaaGreat
open Go Go.RowKit Go.Sort
/-- A step within which a directory is changed: the two ends. -/
theorem step_change {F D : Nat → Prop} {sb : Nat} {st : FSt} {w w1 : World} (h : FSr w F D sb st) (hb : Below w.heap.size w w1) (hlen : st.chg.length ≤ 1000000) (g : Nat) (cb : Array Value) (eg : ∀ args w, (callFunc g args).run Tryz.prog w = .ok (.enter g args) w) (c : Chg)
    (hn : nameR c.nm = true) (hd : ∀ p, c.dst = some p → (st.files p).isSome = true)
    (hcl : ∀ w2, Fr (· = sb) w1 w2 → (∀ w3, Below w2.heap.size w2 w3 → Calls Tryz.prog 49 #[.pointer (some ⟨sb, 0, none⟩), .agg (chgC c).toArray] w3 fun e w' => e = .returned (.tuple #[]) ∧ (∃ m1 m2 ca cc, FSo w' (fun k => F k ∨ w1.heap.size ≤ k) (fun k => D k ∨ w1.heap.size ≤ k) sb (chgF (tick st) c) m1 m2 (.slice ca (chgF (tick st) c).chg.length cc)) ∧ Fr (fun k => F k ∨ w1.heap.size ≤ k) w2 w') →
      Calls Tryz.prog g cb w2 fun e w' => e = .returned (.tuple #[]) ∧ (∃ m1 m2 ca cc, FSo w' (fun k => F k ∨ w1.heap.size ≤ k) (fun k => D k ∨ w1.heap.size ≤ k) sb (chgF (tick st) c) m1 m2 (.slice ca (chgF (tick st) c).chg.length cc)) ∧ Fr (fun k => F k ∨ w1.heap.size ≤ k) w2 w') :
    Calls Tryz.prog 47 #[.pointer (some ⟨sb, 0, none⟩), .func (.func g) #[] cb] w1 fun e w' => e = .returned (.int .i64 (goF st fun s => chgF s c).2) ∧ ∃ F' D', FSr w' F' D' sb (goF st fun s => chgF s c).1 ∧ Turn F D F' D' w w' := by
  obtain ⟨m1, m2, ca, cc, ho⟩ := (h.below hb).lies
  refine (fsStep_ok w1 ho.growF g cb eg
    (fun w' => (∃ m1 m2 ca cc, FSo w' (fun k => F k ∨ w1.heap.size ≤ k) (fun k => D k ∨ w1.heap.size ≤ k) sb (chgF (tick st) c) m1 m2 (.slice ca (chgF (tick st) c).chg.length cc)) ∧ Fr (fun k => F k ∨ w1.heap.size ≤ k) w1 w') (fun w2 h2 hf2 hs2 => ?_)).mono ?_
  · refine (hcl w2 hf2 (fun w3 hb3 => ?_)).mono ?_
    · have hc := fsChange_ok w3 (h2.below hb3) (fun k hk => .inr (by have := hb3.size; omega)) hlen c
      refine hc.mono ?_
      rintro e w' ⟨rfl, ⟨ca', cc', hq⟩, hf⟩
      exact ⟨rfl, ⟨_, _, _, _, hq⟩, (Fr.of_below hb3).trans hf⟩
    · rintro e w' ⟨rfl, hq, hf⟩
      exact ⟨rfl, hq, (hf2.mono (fun k _ e => e ▸ ho.growF.self)).trans hf⟩
  · rintro e w' (⟨ha, hl, rfl, hd', hf⟩ | ⟨hn', rfl, ⟨m1', m2', ca', cc', h3⟩, hf3⟩)
    · have hg : (goF st fun s => chgF s c) = ({ st with down := true }, 12) := if_pos ⟨ha, hl⟩
      rw [hg]
      exact ⟨rfl, hd'.done h.ok.fall hb (hf.mono (fun k _ e => e ▸ ho.growF.self)) (fun k h => h) (fun k h => h)⟩
    · have hg : (goF st fun s => chgF s c) = (chgF (tick st) c, 0) := if_neg hn'
      rw [hg]
      exact ⟨rfl, h3.done (h.ok.tick.change hn hd) hb hf3 (fun k h => h) (fun k h => h)⟩
set_option maxHeartbeats 1000000 in
set_option maxRecDepth 100000 in
theorem fsRemove_ok {F D : Nat → Prop} {sb : Nat} {st : FSt} (w : World) (h : FSr w F D sb st) (hlen : st.chg.length ≤ 1000000) (n : ByteArray) :
    Calls Tryz.prog 25 #[.pointer (some ⟨sb, 0, none⟩), .string n] w fun e w' => e = .returned (.int .i64 (removeF st n).2) ∧ ∃ F' D', FSr w' F' D' sb (removeF st n).1 ∧ Turn F D F' D' w w' := by
  obtain ⟨w0, hw0⟩ : ∃ w0, w0 = (w.alloc (.cells #[.pointer (some ⟨sb, 0, none⟩)] 25)).alloc (.cells #[.string n] 9) := ⟨_, rfl⟩
  have hb0 : Below w.heap.size w w0 := by rw [hw0]; exact ((Below.refl _ _).alloc (Nat.le_refl _) _).alloc (by simp) _
  have hx1 : w0.heap[w.heap.size]? = some (.cells #[.pointer (some ⟨sb, 0, none⟩)] 25 (0, 0)) := by rw [hw0]; exact (Below.heap_alloc _ _ _ (by simp)).trans (heap_alloc_new w _)
  have hx2 : w0.heap[w.heap.size + 1]? = some (.cells #[.string n] 9 (0, 0)) := by rw [hw0]; have := heap_alloc_new (w.alloc (.cells #[.pointer (some ⟨sb, 0, none⟩)] 25)) (.cells #[.string n] 9 (0, 0)); simpa using this
  have hsb := h.sb_lt
  have q1 : w0.cell? ⟨w.heap.size, 0, none⟩ = some (.pointer (some ⟨sb, 0, none⟩)) := cell_of_heap hx1 0
  have q2 : w0.cell? ⟨w.heap.size + 1, 0, none⟩ = some (.string n) := cell_of_heap hx2 0
  have HF := hid (fsFind_ok w0 (h.below hb0) n)
  have hl1 := lt_of_heap hx1
  have hl2 := lt_of_heap hx2
  have HB0 := hid hb0
  have HH := hid h
  have HL := hid hlen
  clear hb0 hx1 hx2 h hlen
  have hmf : ∀ (fn : Fn) (first cap : Array Value) (w : World), (Instr.makeFunc fn first cap).run Tryz.prog w = .ok (.func fn first cap) w := fun _ _ _ _ => rfl
  obtain ⟨f, o, hfo⟩ : ∃ f o, findF st n = (f, o) := ⟨(findF st n).1, (findF st n).2, rfl⟩
  have hc : removeF st n = if f = 0 then goF st fun s => chgF s ⟨n, ByteArray.empty, none⟩ else (st, f) := by unfold removeF; rw [hfo]
  rw [hfo] at HF
  have HC := hid hc
  have HNM := hid (fun hf => findF_name hfo hf)
  clear hc hfo
  unfold findC at HF
  generalize Option.map (fun p => (⟨p, 0, none⟩ : Addr)) o = po at HF
  by_cases h0 : f = 0
  · subst h0
    rw [HC.out, if_pos rfl]
    have HST := hid (fun w1 (hb1 : Below w0.heap.size w0 w1) => step_change HH.out (Below.below HB0.out hb1) HL.out 64 #[.pointer (some ⟨w.heap.size, 0, none⟩), .pointer (some ⟨w.heap.size + 1, 0, none⟩)] (enters_of Tryz.func64 rfl rfl) ⟨n, ByteArray.empty, none⟩ (HNM.out (.inl rfl)) (fun p hp => by cases hp) (fun w2 hf2 hch => by
      have hs1 := hb1.size
      have k1 := (hf2.cell (p := ⟨w.heap.size, 0, none⟩) (show w.heap.size < _ by omega) (fun e => absurd (show w.heap.size = sb from e) (by omega))).trans ((hb1.cell (p := ⟨w.heap.size, 0, none⟩) hl1).trans q1)
      have k2 := (hf2.cell (p := ⟨w.heap.size + 1, 0, none⟩) (show w.heap.size + 1 < _ by omega) (fun e => absurd (show w.heap.size + 1 = sb from e) (by omega))).trans ((hb1.cell (p := ⟨w.heap.size + 1, 0, none⟩) hl2).trans q2)
      have HCH := hid (hch w2 (Below.refl _ _))
      clear hch q1 q2 HC HF HNM HL HH
      generalize chgF (tick st) ⟨n, ByteArray.empty, none⟩ = S at *
      go_enter Tryz.func64, Tryz.ntmps64
      go_wp2_with (go_at_call 49; refine HCH.out.mono ?_; rintro e w3 ⟨rfl, hq, hf⟩; have HQ := hid hq; have HFF := hid hf; clear hq hf)
      go_end0
      exact ⟨rfl, HQ.out, HFF.out⟩))
    generalize (goF st fun s => chgF s ⟨n, ByteArray.empty, none⟩) = R at *
    go_enter Tryz.func25, Tryz.ntmps25
    go_wp2_with (first | (go_at_call 40; rw [← hw0]; refine HF.out.mono ?_; rintro e w1 ⟨rfl, hb1⟩; have HB1 := hid hb1; have k1 := (hb1.cell (p := ⟨w.heap.size, 0, none⟩) hl1).trans q1; have k2 := (hb1.cell (p := ⟨w.heap.size + 1, 0, none⟩) hl2).trans q2; clear hb1) | (go_at_call 47; refine (HST.out w1 HB1.out).mono ?_; rintro e w2 ⟨rfl, hr⟩; have HR := hid hr; clear hr))
    go_ret
    exact ⟨rfl, HR.out⟩
  · have g0 : (f == 0) = false := by simpa using h0
    have g1 : (f != 0) = true := by simpa using h0
    rw [HC.out, if_neg h0]
    go_enter Tryz.func25, Tryz.ntmps25
    go_wp2_with (go_at_call 40; rw [← hw0]; refine HF.out.mono ?_; rintro e w1 ⟨rfl, hb1⟩; have HB1 := hid hb1; clear hb1)
    go_ret
    exact ⟨rfl, HH.out.same (Below.below HB0.out HB1.out)⟩
end Go.Proofs.YtgehalfnpbjjcaaGreat
