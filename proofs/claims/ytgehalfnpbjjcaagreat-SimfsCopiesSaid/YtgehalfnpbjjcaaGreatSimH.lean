/- simfs: New, Fsync. -/
import Derived.Test.YtgehalfnpbjjcaaGreatSimG
namespace Go.Proofs.YtgehalfnpbjjcaaGreat
open Go Go.RowKit Go.Sort
set_option maxRecDepth 100000 in
theorem fsNew_bad (w : World) (n : Int) (h : n < 0 ∨ 99000 < n) : Calls Tryz.prog 6 #[.int .i64 n] w fun e w' => e = .returned (.tuple #[.pointer none, .int .i64 1]) ∧ w' = w := by
  by_cases h0 : n < 0
  · go_enter Tryz.func6, Tryz.ntmps6
    go_wp2
    go_ret2
    exact ⟨rfl, rfl⟩
  · have h1 : 99000 < n := by omega
    go_enter Tryz.func6, Tryz.ntmps6
    go_wp2
    go_ret2
    exact ⟨rfl, rfl⟩
set_option maxRecDepth 100000 in
theorem fsNew_ok (w : World) (n : Int) (h0 : 0 ≤ n) (h1 : n ≤ 99000) : Calls Tryz.prog 6 #[.int .i64 n] w fun e w' => ∃ sb, e = .returned (.tuple #[.pointer (some ⟨sb, 0, none⟩), .int .i64 0]) ∧ ∃ F, FSr w' F F sb (newF n) ∧ (∀ k, F k → w.heap.size ≤ k) ∧ Below w.heap.size w w' := by
  have hmm := @run_makeMap Tryz.prog
  have g0 : ¬ n < 0 := by omega
  have g1 : ¬ 99000 < n := by omega
  go_enter Tryz.func6, Tryz.ntmps6
  go_wp2
  go_ret2
  obtain ⟨wa, hwa⟩ : ∃ wa, wa = w.alloc (.map #[] 0) := ⟨_, rfl⟩
  have hba : Below w.heap.size w wa := by rw [hwa]; exact (Below.refl _ _).alloc (Nat.le_refl _) _
  have hsa : wa.heap.size = w.heap.size + 1 := by rw [hwa]; simp
  have hma : MapG Value.string ekP wa w.heap.size [] := by rw [hwa]; exact MapG.made
  rw [← hwa]
  obtain ⟨wb, hwb⟩ : ∃ wb, wb = wa.alloc (.map #[] 0) := ⟨_, rfl⟩
  have hbb : Below wa.heap.size wa wb := by rw [hwb]; exact (Below.refl _ _).alloc (Nat.le_refl _) _
  have hsb : wb.heap.size = w.heap.size + 2 := by rw [hwb]; simp [hsa]
  have hmb : MapG Value.string ekP wb (w.heap.size + 1) [] := by rw [hwb, ← hsa]; exact MapG.made
  rw [← hwb]
  have hmc := (hma.fr (Fr.of_below hbb : Fr (fun _ => False) _ _) id)
  obtain ⟨wc, hwc⟩ : ∃ wc, wc = wb.alloc (.cells (fsC (newF n) w.heap.size (w.heap.size + 1) (.slice none 0 0)) 62) := ⟨_, rfl⟩
  have hbc : Below wb.heap.size wb wc := by rw [hwc]; exact (Below.refl _ _).alloc (Nat.le_refl _) _
  have hsc : wc.heap.size = w.heap.size + 3 := by rw [hwc]; simp [hsb]
  have hhc : wc.heap[w.heap.size + 2]? = some (.cells (fsC (newF n) w.heap.size (w.heap.size + 1) (.slice none 0 0)) 62 (0, 0)) := by rw [hwc, ← hsb]; exact heap_alloc_new wb _
  refine ⟨w.heap.size + 2, rfl, fun k => w.heap.size ≤ k ∧ k < w.heap.size + 3, ?_, fun k h => h.1, Below.below (Below.below hba hbb) (show Below wb.heap.size wb _ from hwc ▸ hbc)⟩
  show FSr (wb.alloc (.cells (fsC (newF n) w.heap.size (w.heap.size + 1) (.slice none 0 0)) 62)) _ _ _ _
  rw [← hwc]
  have hf : Fr (fun _ => False) wb wc := Fr.of_below hbc
  refine ⟨newF_ok h0 h1, ⟨w.heap.size, w.heap.size + 1, none, 0, ?_⟩, fun k h => by rw [hsc]; exact h.2⟩
  exact {
    head := hhc
    self := ⟨by omega, by omega⟩
    f1 := ⟨by omega, by omega⟩
    f2 := ⟨by omega, by omega⟩
    ne := by omega
    seen := hmc.fr hf id
    safe := hmb.fr hf id
    own := Own.nil _ _ _ _
    hm := fun k hk => by obtain ⟨off, m, c, hv, hc⟩ := hk; cases hv
    files := fun p x hp => by cases hp
    sub := fun k h => h }
/-- What the closure of Fsync does. -/
theorem fsFsync1_ok {F D : Nat → Prop} {sb m1 m2 : Nat} {s : FSt} {ch : Value} (w : World) (h : FSo w F D sb s m1 m2 ch) {p : Nat} {x : Fil} (hx : s.files p = some x) (b1 : Nat) (k1 : w.cell? ⟨b1, 0, none⟩ = some (.pointer (some ⟨p, 0, none⟩))) :
    Calls Tryz.prog 52 #[.pointer (some ⟨b1, 0, none⟩)] w fun e w' => e = .returned (.tuple #[]) ∧ FSo w' F D sb { s with files := putFil s.files p ⟨x.b, x.b.length⟩ } m1 m2 ch ∧ Fr F w w' := by
  obtain ⟨hF, v, hv, hb⟩ := h.files p x hx
  obtain ⟨a, c, rfl, _⟩ := id hb
  have HX := hid hx
  have mixed : Tryz.prog.follows .mixedOrders = true := by kernel_rfl
  have c0 : w.cell? ⟨p, 0, none⟩ = some (.slice a x.b.length c) := cell_of_heap hv 0
  have c1 : w.cell? ⟨p, 1, none⟩ = some (.int .i64 (x.safe : Int)) := cell_of_heap hv 1
  have f1 := frozen_of hv 1
  have HV := hid hv
  have HB := hid hb
  have HH := hid h
  have HF := hid hF
  clear hv hb h hF hx
  go_enter Tryz.func52, Tryz.ntmps52
  go_wp2_with fail
  go_region_law_o (fail)
  all_goals
    go_end0
    have hset := heap_store HV.out 1 (.int .i64 (x.b.length : Int))
    have hfr : Fr (· = p) w (w.setCell ⟨p, 1, none⟩ (.int .i64 (x.b.length : Int))).drew := ((Fr.refl (· = p) w).setCell (fun _ => rfl) _).drew
    exact ⟨rfl, HH.out.setFile (y := ⟨x.b, x.b.length⟩) HX.out hfr (hset.trans rfl) HB.out, hfr.mono (fun k _ e => e ▸ HF.out)⟩
/-- A step within which something is done. -/
theorem step_any {F D F1 D1 : Nat → Prop} {sb : Nat} {st : FSt} {w w1 : World} (h : FSr w F D sb st) (hb : Below w.heap.size w w1) (g : Nat) (cb : Array Value) (eg : ∀ args w, (callFunc g args).run Tryz.prog w = .ok (.enter g args) w) (f : FSt → FSt) (hok : (f (tick st)).Ok)
    (hg : ∀ m1 m2 ch, FSo w1 F D sb st m1 m2 ch → FSo w1 F1 D1 sb st m1 m2 ch) (h1 : ∀ k, F1 k → F k ∨ w1.heap.size ≤ k) (h2 : ∀ k, D1 k → D k ∨ w1.heap.size ≤ k)
    (hcl : ∀ w2 m1 m2 ca cc, FSo w2 F1 D1 sb (tick st) m1 m2 (.slice ca st.chg.length cc) → Fr (· = sb) w1 w2 → w2.heap.size = w1.heap.size → Calls Tryz.prog g cb w2 fun e w' => e = .returned (.tuple #[]) ∧ (∃ m1 m2 ch, FSo w' F1 D1 sb (f (tick st)) m1 m2 ch) ∧ Fr F1 w2 w') :
    Calls Tryz.prog 47 #[.pointer (some ⟨sb, 0, none⟩), .func (.func g) #[] cb] w1 fun e w' => e = .returned (.int .i64 (goF st f).2) ∧ ∃ F' D', FSr w' F' D' sb (goF st f).1 ∧ Turn F D F' D' w w' := by
  obtain ⟨m1, m2, ca, cc, ho⟩ := (h.below hb).lies
  have ho1 := hg _ _ _ ho
  refine (fsStep_ok w1 ho1 g cb eg (fun w' => (∃ m1 m2 ch, FSo w' F1 D1 sb (f (tick st)) m1 m2 ch) ∧ Fr F1 w1 w') (fun w2 h2 hf2 hs2 => ?_)).mono ?_
  · refine (hcl w2 m1 m2 ca cc h2 hf2 hs2).mono ?_
    rintro e w' ⟨rfl, hq, hf⟩
    exact ⟨rfl, hq, (hf2.mono (fun k _ e => e ▸ ho1.self)).trans hf⟩
  · rintro e w' (⟨ha, hl, rfl, hd', hf⟩ | ⟨hn', rfl, ⟨m1', m2', ch', h3⟩, hf3⟩)
    · have hgo : goF st f = ({ st with down := true }, 12) := if_pos ⟨ha, hl⟩
      rw [hgo]
      exact ⟨rfl, hd'.done h.ok.fall hb (hf.mono (fun k _ e => e ▸ ho1.self)) h1 h2⟩
    · have hgo : goF st f = (f (tick st), 0) := if_neg hn'
      rw [hgo]
      exact ⟨rfl, h3.done hok hb hf3 h1 h2⟩
set_option maxHeartbeats 1000000 in
set_option maxRecDepth 100000 in
theorem fsFsync_ok {F D : Nat → Prop} {sb : Nat} {st : FSt} (w : World) (h : FSr w F D sb st) (n : ByteArray) :
    Calls Tryz.prog 15 #[.pointer (some ⟨sb, 0, none⟩), .string n] w fun e w' => e = .returned (.int .i64 (fsyncF st n).2) ∧ ∃ F' D', FSr w' F' D' sb (fsyncF st n).1 ∧ Turn F D F' D' w w' := by
  have HF := hid (fsFind_ok w h n)
  have HH := hid h
  have hsb := h.sb_lt
  have hmf : ∀ (fn : Fn) (first cap : Array Value) (w : World), (Instr.makeFunc fn first cap).run Tryz.prog w = .ok (.func fn first cap) w := fun _ _ _ _ => rfl
  cases hfo : findF st n with
  | mk f o =>
  rw [hfo] at HF
  unfold findC at HF
  by_cases h0 : f = 0
  · subst h0
    obtain ⟨p, rfl⟩ := findF_some hfo
    have hmem := mem_seen hfo
    obtain ⟨x, hx⟩ := Option.isSome_iff_exists.1 (h.ok.seenI _ hmem).1
    simp only at hx
    rw [fsyncF_yes hfo]
    have hfx : ∀ s : FSt, s.files p = some x → (match s.files p with | some x => { s with files := putFil s.files p ⟨x.b, x.b.length⟩ } | none => s) = { s with files := putFil s.files p ⟨x.b, x.b.length⟩ } := fun s hs => by rw [hs]
    have HX := hid hx
    have HFX := hid hfx
    simp only [Option.map_some] at HF
    have HST := hid (show ∀ w1, Below w.heap.size w w1 → Calls Tryz.prog 47 #[.pointer (some ⟨sb, 0, none⟩), .func (.func 52) #[] #[.pointer (some ⟨w1.heap.size, 0, none⟩)]] (w1.alloc (.cells #[.pointer (some ⟨p, 0, none⟩)] 73)) fun e w' => e = .returned (.int .i64 (goF st (fun s => match s.files p with | some x => { s with files := putFil s.files p ⟨x.b, x.b.length⟩ } | none => s)).2) ∧ ∃ F' D', FSr w' F' D' sb (goF st (fun s => match s.files p with | some x => { s with files := putFil s.files p ⟨x.b, x.b.length⟩ } | none => s)).1 ∧ Turn F D F' D' w w' from fun w1 hb1 => by
      have hz := hb1.size
      have hba : Below w1.heap.size w1 (w1.alloc (.cells #[.pointer (some ⟨p, 0, none⟩)] 73)) := (Below.refl _ _).alloc (Nat.le_refl _) _
      have hk := cell_of_heap (heap_alloc_new w1 (.cells #[.pointer (some ⟨p, 0, none⟩)] 73)) 0
      have hlt := lt_of_heap (heap_alloc_new w1 (.cells #[.pointer (some ⟨p, 0, none⟩)] 73))
      refine step_any (F1 := F) (D1 := D) HH.out (Below.below hb1 hba) 52 #[.pointer (some ⟨w1.heap.size, 0, none⟩)] (enters_of Tryz.func52 rfl rfl) (fun s => match s.files p with | some x => { s with files := putFil s.files p ⟨x.b, x.b.length⟩ } | none => s)
        (by rw [HFX.out (tick st) HX.out]; exact HH.out.ok.tick.put ⟨Nat.le_refl _, (HH.out.ok.fil p x HX.out).2⟩)
        (fun _ _ _ h => h) (fun k h => .inl h) (fun k h => .inl h) (fun w2 m1 m2 ca cc h2 hf2 hs2 => ?_)
      have k1 := (hf2.cell (p := ⟨w1.heap.size, 0, none⟩) hlt (fun e => absurd (show w1.heap.size = sb from e) (by omega))).trans hk
      refine (fsFsync1_ok w2 h2 (x := x) HX.out _ k1).mono ?_
      rintro e w' ⟨rfl, h3, hf3⟩
      refine ⟨rfl, ⟨m1, m2, .slice ca st.chg.length cc, ?_⟩, hf3⟩
      rw [HFX.out (tick st) HX.out]
      exact h3)
    clear hfo hmem hx hfx h
    generalize goF st (fun s => match s.files p with | some x => { s with files := putFil s.files p ⟨x.b, x.b.length⟩ } | none => s) = R at *
    go_enter Tryz.func15, Tryz.ntmps15
    go_wp2_with (first | (go_at_call 40; refine HF.out.mono ?_; rintro e w1 ⟨rfl, hb1⟩; have HB1 := hid hb1; clear hb1) | (go_at_call 47; refine (HST.out w1 HB1.out).mono ?_; rintro e w2 ⟨rfl, hr⟩; have HR := hid hr; clear hr))
    go_ret
    exact ⟨rfl, HR.out⟩
  · have g1 : (f != 0) = true := by simpa using h0
    rw [fsyncF_no hfo h0]
    clear hfo
    generalize Option.map (fun p => (⟨p, 0, none⟩ : Addr)) o = po at HF
    go_enter Tryz.func15, Tryz.ntmps15
    go_wp2_with (go_at_call 40; refine HF.out.mono ?_; rintro e w1 ⟨rfl, hb1⟩; have HB1 := hid hb1; clear hb1)
    go_ret
    exact ⟨rfl, HH.out.same (HB1.out.trans ((Below.refl _ _).alloc HB1.out.size _))⟩
end Go.Proofs.YtgehalfnpbjjcaaGreat
