/- simfs: a file's copy. -/
import Derived.Test.YtgehalfnpbjjcaaSimP
namespace Go.Proofs.Ytgehalfnpbjjcaa
open Go Go.RowKit Go.Sort
theorem keyFP : KeyG Try.prog 75 ekP RowAt := by
  obtain ⟨j, hj, hz⟩ : ∃ j, Try.prog.info? 81 = some j ∧ j.size ≠ 0 := by
    have h : (Try.prog.info? 81).map (·.size) = some 2 := by kernel_rfl
    cases hq : Try.prog.info? 81 with
    | none => rw [hq] at h; cases h
    | some q => rw [hq] at h; exact ⟨q, rfl, by simp at h; omega⟩
  exact keyP Try.underlying75 hj hz
theorem r_cp (w : World) : (underlying 96).run Try.prog w = .ok (.map 75 75) w := run_underlying Try.underlying96 w
/-- The copies made so far: φ leads from a file to its copy. -/
structure Copies (w : World) (F D : Nat → Prop) (base : Nat) (st : FSt) (mc : Nat) (φ : List (Nat × Nat)) : Prop where
  map : MapG ekP ekP w mc φ
  mc : base ≤ mc
  inj : (φ.map Prod.snd).Nodup
  each : ∀ p q, (p, q) ∈ φ → base ≤ q ∧ ∃ x v, st.files p = some x ∧ w.heap[q]? = some (.cells #[v, .int .i64 (x.safe : Int)] 81 (0, 0)) ∧ Bs (fun k => D k → F k) w v x.b
theorem Copies.fr {w w' : World} {F D S : Nat → Prop} {base : Nat} {st : FSt} {mc : Nat} {φ : List (Nat × Nat)} (h : Copies w F D base st mc φ) (hf : Fr S w w') (hm : ¬ S mc) (hq : ∀ p q, (p, q) ∈ φ → ¬ S q) (hD : ∀ k, D k → ¬ F k → ¬ S k) : Copies w' F D base st mc φ where
  map := h.map.fr hf hm
  mc := h.mc
  inj := h.inj
  each := fun p q hpq => by
    obtain ⟨h1, x, v, h2, h3, h4⟩ := h.each p q hpq
    exact ⟨h1, x, v, h2, hf.heap h3 (hq p q hpq), h4.dep hf hD⟩
theorem FSr.rowAt {w : World} {F D : Nat → Prop} {sb : Nat} {st : FSt} (h : FSr w F D sb st) {p : Nat} {x : Fil} (hx : st.files p = some x) : RowAt w p := by
  obtain ⟨m1, m2, ca, cc, ho⟩ := h.lies
  obtain ⟨_, v, hv, _⟩ := ho.files p x hx
  exact ⟨_, _, hv⟩
theorem mapG_ne_cellsP {w : World} {m p : Nat} {d : List (Nat × Nat)} {cs : Array Value} {t : TypeId} (hm : MapG ekP ekP w m d) (hp : w.heap[p]? = some (.cells cs t (0, 0))) : p ≠ m := by
  obtain ⟨es, c, h1, _⟩ := hm
  intro e
  rw [← e, hp] at h1
  cases h1
theorem mem_snd {φ : List (Nat × Nat)} {q : Nat} (h : q ∈ φ.map Prod.snd) : ∃ p, (p, q) ∈ φ := by
  obtain ⟨⟨p, q'⟩, h1, rfl⟩ := List.mem_map.1 h
  exact ⟨p, h1⟩
set_option maxHeartbeats 1000000 in
set_option maxRecDepth 100000 in
theorem cpFile_ok {F D : Nat → Prop} {sb base mc : Nat} {st : FSt} {φ : List (Nat × Nat)} (w : World) (h : FSr w F D sb st) (hb : ∀ k, D k → k < base) (hw : base ≤ w.heap.size) (hC : Copies w F D base st mc φ) {p : Nat} {x : Fil} (hx : st.files p = some x) :
    Calls Try.prog 61 #[.map (some mc), .pointer (some ⟨p, 0, none⟩)] w fun e w' => ∃ q, e = .returned (.pointer (some ⟨q, 0, none⟩)) ∧ ∃ φ', Copies w' F D base st mc φ' ∧ dget φ' p = some q ∧ (∀ a b, dget φ a = some b → dget φ' a = some b) ∧ Fr (· = mc) w w' := by
  have hgk := h.rowAt hx
  have hgs : ∀ a ∈ φ, RowAt w a.1 := fun a ha => by
    obtain ⟨_, y, v, hy, _⟩ := hC.each a.1 a.2 ha
    exact h.rowAt hy
  have hlk := run_lookupG (ok := true) keyFP r_cp (te := 75) (z := .pointer none) (fun _ => by kernel_rfl) hC.map hgs p hgk
  obtain ⟨m1, m2, ca, cc, ho⟩ := h.lies
  obtain ⟨_, v, hv, hbs⟩ := ho.files p x hx
  obtain ⟨a, c, rfl, _⟩ := id hbs
  have mixed : Try.prog.follows .mixedOrders = true := by kernel_rfl
  have c0 : w.cell? ⟨p, 0, none⟩ = some (.slice a x.b.length c) := cell_of_heap hv 0
  have c1 : w.cell? ⟨p, 1, none⟩ = some (.int .i64 (x.safe : Int)) := cell_of_heap hv 1
  have HC := hid hC
  have HX := hid hx
  have HBS := hid hbs
  have HB := hid hb
  have HW := hid hw
  have HGK := hid hgk
  have HGS := hid hgs
  simp only [ekP_def] at hlk
  cases hg : dget φ p with
  | some q =>
    rw [hg] at hlk
    simp only [if_true] at hlk
    clear h hC hgk hgs ho hv hbs hb hx
    go_enter Try.func61, Try.ntmps61
    go_wp2
    go_ret
    exact ⟨q, rfl, φ, HC.out, hg, fun _ _ h => h, Fr.refl _ _⟩
  | none =>
    rw [hg] at hlk
    simp only [if_true] at hlk
    have hba : Below w.heap.size w (w.alloc (.cells #[.slice a x.b.length c, .int .i64 (x.safe : Int)] 81)).drew := ((Below.refl _ _).alloc (Nat.le_refl _) _).drew
    have hF : Fr (fun _ => False) w (w.alloc (.cells #[.slice a x.b.length c, .int .i64 (x.safe : Int)] 81)).drew := Fr.of_below hba
    have HC1 := hid (hC.fr hF id (fun _ _ _ => id) (fun _ _ _ => id))
    have HGK1 := hid (show RowAt (w.alloc (.cells #[.slice a x.b.length c, .int .i64 (x.safe : Int)] 81)).drew p from hgk.fr hF id)
    have HGS1 := hid (show ∀ e ∈ φ, RowAt (w.alloc (.cells #[.slice a x.b.length c, .int .i64 (x.safe : Int)] 81)).drew e.1 from fun e he => (hgs e he).fr hF id)
    have HF1 := hid hF
    have HN := hid (show (w.alloc (.cells #[.slice a x.b.length c, .int .i64 (x.safe : Int)] 81)).drew.heap[w.heap.size]? = some (.cells #[.slice a x.b.length c, .int .i64 (x.safe : Int)] 81 (0, 0)) from heap_alloc_new w _)
    have hmcl := hC.map.lt
    clear h hC hgk hgs ho hv hbs hb hx hba hF
    go_enter Try.func61, Try.ntmps61
    go_wp2_with fail
    go_region_law_o (fail)
    all_goals
      go_wp2_with (at_mapUpdate; refine wpl_updateG (v := w.heap.size) rfl rfl keyFP r_cp HC1.out.map HGS1.out HGK1.out rfl rfl rfl ?_; intro w2 hm2 hf2 hs2; have HM2 := hid hm2; have HF2 := hid hf2; clear hm2 hf2 hs2)
      go_ret
      have hq2 : w2.heap[w.heap.size]? = some (.cells #[.slice a x.b.length c, .int .i64 (x.safe : Int)] 81 (0, 0)) := HF2.out.heap HN.out (by omega)
      have hDm : ∀ k, D k → ¬ F k → ¬ k = mc := fun k hk _ e => by have := HB.out k hk; have := HC.out.mc; omega
      have hnk : p ∉ φ.map Prod.fst := dget_none_iff.1 hg
      refine ⟨w.heap.size, rfl, dput φ p w.heap.size, ⟨HM2.out, HC.out.mc, ?_, fun p' q' hpq => ?_⟩, dget_put_self HC.out.map.nodup _ _, fun a b hab => ?_, ((Fr.of_below ⟨HF1.out.os, HF1.out.tape, HF1.out.output, HF1.out.size, fun k hk => HF1.out.block k hk id⟩ : Fr (· = mc) w _)).trans HF2.out⟩
      · unfold dput
        rw [if_neg hnk, List.map_append, List.nodup_append]
        refine ⟨HC.out.inj, by simp, fun q1 h1 q2 h2 e => ?_⟩
        simp at h2
        subst h2 e
        obtain ⟨p1, hp1⟩ := mem_snd h1
        obtain ⟨_, y, u, _, hu, _⟩ := HC.out.each p1 _ hp1
        have := lt_of_heap hu
        omega
      · unfold dput at hpq
        rw [if_neg hnk] at hpq
        rcases List.mem_append.1 hpq with hpq | hpq
        · obtain ⟨h1, y, u, h2, h3, h4⟩ := HC1.out.each p' q' hpq
          exact ⟨h1, y, u, h2, HF2.out.heap h3 (fun e => by subst e; exact mapG_ne_cellsP HC1.out.map h3 rfl), h4.dep HF2.out hDm⟩
        · simp at hpq
          obtain ⟨rfl, rfl⟩ := hpq
          exact ⟨HW.out, x, _, HX.out, hq2, (HBS.out.dep HF1.out (fun _ _ _ => id)).dep HF2.out hDm⟩
      · by_cases e : a = p
        · subst e; rw [hg] at hab; cases hab
        · rw [dget_put_ne HC.out.map.nodup e]; exact hab
end Go.Proofs.Ytgehalfnpbjjcaa
