/- simfs: a file's copy. -/
import Derived.Test.YtgehalfnpbjjcaaGreatSimP
namespace Go.Proofs.YtgehalfnpbjjcaaGreat
open Go Go.RowKit Go.Sort
theorem keyFP : KeyG Tryz.prog 73 ekP RowAt := by
  obtain ⟨j, hj, hz⟩ : ∃ j, Tryz.prog.info? 87 = some j ∧ j.size ≠ 0 := by
    have h : (Tryz.prog.info? 87).map (·.size) = some 2 := by kernel_rfl
    cases hq : Tryz.prog.info? 87 with
    | none => rw [hq] at h; cases h
    | some q => rw [hq] at h; exact ⟨q, rfl, by simp at h; omega⟩
  exact keyP Tryz.underlying73 hj hz
theorem r_cp (w : World) : (underlying 71).run Tryz.prog w = .ok (.map 73 73) w := run_underlying Tryz.underlying71 w
/-- The copies made so far: φ leads from a file to its copy. -/
structure Copies (w : World) (F D : Nat → Prop) (base : Nat) (st : FSt) (mc : Nat) (φ : List (Nat × Nat)) : Prop where
  map : MapG ekP ekP w mc φ
  mc : base ≤ mc
  inj : (φ.map Prod.snd).Nodup
  each : ∀ p q, (p, q) ∈ φ → base ≤ q ∧ ∃ x v, st.files p = some x ∧ w.heap[q]? = some (.cells #[v, .int .i64 (x.safe : Int)] 87 (0, 0)) ∧ Bs (fun k => D k → F k) w v x.b
theorem Copies.fr {w w' : World} {F D S : Nat → Prop} {base : Nat} {st : FSt} {mc : Nat} {φ : List (Nat × Nat)} (h : Copies w F D base st mc φ) (hf : Fr S w w') (hm : ¬ S mc) (hq : ∀ p q, (p, q) ∈ φ → ¬ S q) (hD : ∀ k, D k → ¬ F k → ¬ S k) : Copies w' F D base st mc φ where
  map := h.map.fr hf hm
  mc := h.mc
  inj := h.inj
  each := fun p q hpq => by
    obtain ⟨h1, x, v, h2, h3, h4⟩ := h.each p q hpq
    exact ⟨h1, x, v, h2, hf.heap h3 (hq p q hpq), h4.dep hf hD⟩
theorem FSr.rowAt {w : World} {F D : Nat → Prop} {sb : Nat} {st : FSt} (h : FSr w F D sb st) {p : Nat} {x : Fil} (hx : st.files p = some x) : RowAt w p := by
  obtain ⟨m1, m2, ca, cc, ho⟩ := h.lies
  obtain ⟨_, v, hv, _⟩ := ho.files p x hx
  exact ⟨_, _, hv⟩
theorem mapG_ne_cellsP {w : World} {m p : Nat} {d : List (Nat × Nat)} {cs : Array Value} {t : TypeId} (hm : MapG ekP ekP w m d) (hp : w.heap[p]? = some (.cells cs t (0, 0))) : p ≠ m := by
  obtain ⟨es, c, h1, _⟩ := hm
  intro e
  rw [← e, hp] at h1
  cases h1
theorem mem_snd {φ : List (Nat × Nat)} {q : Nat} (h : q ∈ φ.map Prod.snd) : ∃ p, (p, q) ∈ φ := by
  obtain ⟨⟨p, q'⟩, h1, rfl⟩ := List.mem_map.1 h
  exact ⟨p, h1⟩
set_option maxHeartbeats 1000000 in
set_option maxRecDepth 100000 in
theorem cpFile_ok {F D : Nat → Prop} {sb base mc : Nat} {st : FSt} {φ : List (Nat × Nat)} (w : World) (h : FSr w F D sb st) (hb : ∀ k, D k → k < base) (hw : base ≤ w.heap.size) (hC : Copies w F D base st mc φ) {p : Nat} {x : Fil} (hx : st.files p = some x) :
    Calls Tryz.prog 35 #[.map (some mc), .pointer (some ⟨p, 0, none⟩)] w fun e w' => ∃ q, e = .returned (.pointer (some ⟨q, 0, none⟩)) ∧ ∃ φ', Copies w' F D base st mc φ' ∧ dget φ' p = some q ∧ (∀ a b, dget φ a = some b → dget φ' a = some b) ∧ Fr (· = mc) w w' := by
  have hgk := h.rowAt hx
  have hgs : ∀ a ∈ φ, RowAt w a.1 := fun a ha => by
    obtain ⟨_, y, v, hy, _⟩ := hC.each a.1 a.2 ha
    exact h.rowAt hy
  have hlk := run_lookupG (ok := true) keyFP r_cp (te := 73) (z := .pointer none) (fun _ => by kernel_rfl) hC.map hgs p hgk
  obtain ⟨m1, m2, ca, cc, ho⟩ := h.lies
  obtain ⟨_, v, hv, hbs⟩ := ho.files p x hx
  obtain ⟨a, c, rfl, _⟩ := id hbs
  have mixed : Tryz.prog.follows .mixedOrders = true := by kernel_rfl
  have c0 : w.cell? ⟨p, 0, none⟩ = some (.slice a x.b.length c) := cell_of_heap hv 0
  have c1 : w.cell? ⟨p, 1, none⟩ = some (.int .i64 (x.safe : Int)) := cell_of_heap hv 1
  have HC := hid hC
  have HX := hid hx
  have HBS := hid hbs
  have HB := hid hb
  have HW := hid hw
  have HGK := hid hgk
  have HGS := hid hgs
  simp only [ekP_def] at hlk
  cases hg : dget φ p with
  | some q =>
    rw [hg] at hlk
    simp only [if_true] at hlk
    clear h hC hgk hgs ho hv hbs hb hx
    go_enter Tryz.func35, Tryz.ntmps35
    go_wp2
    go_ret
    exact ⟨q, rfl, φ, HC.out, hg, fun _ _ h => h, Fr.refl _ _⟩
  | none =>
    rw [hg] at hlk
    simp only [if_true] at hlk
    have hba : Below w.heap.size w (w.alloc (.cells #[.slice a x.b.length c, .int .i64 (x.safe : Int)] 87)).drew := ((Below.refl _ _).alloc (Nat.le_refl _) _).drew
    have hF : Fr (fun _ => False) w (w.alloc (.cells #[.slice a x.b.length c, .int .i64 (x.safe : Int)] 87)).drew := Fr.of_below hba
    have HC1 := hid (hC.fr hF id (fun _ _ _ => id) (fun _ _ _ => id))
    have HGK1 := hid (show RowAt (w.alloc (.cells #[.slice a x.b.length c, .int .i64 (x.safe : Int)] 87)).drew p from hgk.fr hF id)
    have HGS1 := hid (show ∀ e ∈ φ, RowAt (w.alloc (.cells #[.slice a x.b.length c, .int .i64 (x.safe : Int)] 87)).drew e.1 from fun e he => (hgs e he).fr hF id)
    have HF1 := hid hF
    have HN := hid (show (w.alloc (.cells #[.slice a x.b.length c, .int .i64 (x.safe : Int)] 87)).drew.heap[w.heap.size]? = some (.cells #[.slice a x.b.length c, .int .i64 (x.safe : Int)] 87 (0, 0)) from heap_alloc_new w _)
    have hmcl := hC.map.lt
    clear h hC hgk hgs ho hv hbs hb hx hba hF
    go_enter Tryz.func35, Tryz.ntmps35
    go_wp2_with fail
    go_region_law_o (fail)
    all_goals
      go_wp2_with (at_mapUpdate; refine wpl_updateG (v := w.heap.size) rfl rfl keyFP r_cp HC1.out.map HGS1.out HGK1.out rfl rfl rfl ?_; intro w2 hm2 hf2 hs2; have HM2 := hid hm2; have HF2 := hid hf2; clear hm2 hf2 hs2)
      go_ret
      have hq2 : w2.heap[w.heap.size]? = some (.cells #[.slice a x.b.length c, .int .i64 (x.safe : Int)] 87 (0, 0)) := HF2.out.heap HN.out (by omega)
      have hDm : ∀ k, D k → ¬ F k → ¬ k = mc := fun k hk _ e => by have := HB.out k hk; have := HC.out.mc; omega
      have hnk : p ∉ φ.map Prod.fst := dget_none_iff.1 hg
      refine ⟨w.heap.size, rfl, dput φ p w.heap.size, ⟨HM2.out, HC.out.mc, ?_, fun p' q' hpq => ?_⟩, dget_put_self HC.out.map.nodup _ _, fun a b hab => ?_, ((Fr.of_below ⟨HF1.out.os, HF1.out.tape, HF1.out.output, HF1.out.size, fun k hk => HF1.out.block k hk id⟩ : Fr (· = mc) w _)).trans HF2.out⟩
      · unfold dput
        rw [if_neg hnk, List.map_append, List.nodup_append]
        refine ⟨HC.out.inj, by simp, fun q1 h1 q2 h2 e => ?_⟩
        simp at h2
        subst h2 e
        obtain ⟨p1, hp1⟩ := mem_snd h1
        obtain ⟨_, y, u, _, hu, _⟩ := HC.out.each p1 _ hp1
        have := lt_of_heap hu
        omega
      · unfold dput at hpq
        rw [if_neg hnk] at hpq
        rcases List.mem_append.1 hpq with hpq | hpq
        · obtain ⟨h1, y, u, h2, h3, h4⟩ := HC1.out.each p' q' hpq
          exact ⟨h1, y, u, h2, HF2.out.heap h3 (fun e => by subst e; exact mapG_ne_cellsP HC1.out.map h3 rfl), h4.dep HF2.out hDm⟩
        · simp at hpq
          obtain ⟨rfl, rfl⟩ := hpq
          exact ⟨HW.out, x, _, HX.out, hq2, (HBS.out.dep HF1.out (fun _ _ _ => id)).dep HF2.out hDm⟩
      · by_cases e : a = p
        · subst e; rw [hg] at hab; cases hab
        · rw [dget_put_ne HC.out.map.nodup e]; exact hab
end Go.Proofs.YtgehalfnpbjjcaaGreat
/- simfs: a directory's copy. -/
namespace Go.Proofs.YtgehalfnpbjjcaaGreat
open Go Go.RowKit Go.Sort
def toC (φ : List (Nat × Nat)) (d : Dir) : Dir := d.map fun p => (p.1, (dget φ p.2).getD 0)
def Ext (φ φ' : List (Nat × Nat)) : Prop := ∀ a b, dget φ a = some b → dget φ' a = some b
theorem toC_ext {φ φ' : List (Nat × Nat)} (h : Ext φ φ') : ∀ {d : Dir}, (∀ p ∈ d, (dget φ p.2).isSome = true) → toC φ' d = toC φ d
  | [], _ => rfl
  | a :: d, hd => by
    obtain ⟨b, hb⟩ := Option.isSome_iff_exists.1 (hd a (by simp))
    unfold toC
    rw [List.map_cons, List.map_cons, h _ _ hb, hb]
    have := toC_ext h (d := d) (fun p hp => hd p (by simp [hp]))
    unfold toC at this
    rw [this]
theorem iter_ne {α β : Type} {ek : α → Value} {ev : β → Value} {w : World} {m r : Nat} {d l : List (α × β)} (h : IterG ek ev w m r d l) {p : Nat} {cs : Array Value} {t : TypeId} (hp : w.heap[p]? = some (.cells cs t (0, 0))) : p ≠ r := by
  obtain ⟨es, clock, since, seen, c0, _, _, _, _, _, h6, _⟩ := h
  intro e
  rw [e, h6] at hp
  cases hp
set_option maxHeartbeats 2000000 in
set_option maxRecDepth 100000 in
theorem cpNames_ok {F D : Nat → Prop} {sb base mc : Nat} {st : FSt} {φ : List (Nat × Nat)} (w : World) (h : FSr w F D sb st) (hb : ∀ k, D k → k < base) (hw : base ≤ w.heap.size) (hC : Copies w F D base st mc φ) {mn : Nat} {d : Dir} (hm : MapG Value.string ekP w mn d) (hmn : mn < base) (hd : ∀ p ∈ d, (st.files p.2).isSome = true) :
    Calls Tryz.prog 34 #[.map (some mc), .map (some mn)] w fun e w' => ∃ mo, e = .returned (.map (some mo)) ∧ ∃ φ' d', w.heap.size ≤ mo ∧ MapG Value.string ekP w' mo d' ∧ Copies w' F D base st mc φ' ∧ d'.Perm (toC φ' d) ∧ (∀ p ∈ d, (dget φ' p.2).isSome = true) ∧ Ext φ φ' ∧ Fr (· = mc) w w' := by
  have hmm := @run_makeMap Tryz.prog
  have hmcl := hC.map.lt
  have HH := hid h
  have HB := hid hb
  have HW := hid hw
  have HM0 := hid hm
  have HD := hid hd
  have HMC := hid hC.mc
  have hba : Below w.heap.size w (w.alloc (.map #[] 0)) := (Below.refl _ _).alloc (Nat.le_refl _) _
  have HA := hid hba
  have HMN := hid (hm.fr (Fr.of_below hba : Fr (fun _ => False) _ _) id)
  have HMO := hid (show MapG Value.string ekP (w.alloc (.map #[] 0)) w.heap.size [] from MapG.made)
  have HCA := hid (hC.fr (Fr.of_below hba : Fr (fun _ => False) _ _) id (fun _ _ _ => id) (fun _ _ _ => id))
  clear h hC hm hba hb hd
  go_enter Tryz.func34, Tryz.ntmps34
  go_wp2_with (at_range; refine wpl_rangeG rfl rfl Tryz.underlying54 HMN.out rfl ?_; intro w0 hit hb0 hs0; have HIT := hid hit; have HB0 := hid hb0; clear hit hb0 hs0)
  go_frame
  have hz : (w.alloc (.map #[] 0)).heap.size = w.heap.size + 1 := by simp
  rw [hz] at HIT ⊢
  have HZ := hid hz
  have hF0 : Fr (fun _ => False) (w.alloc (.map #[] 0)) w0 := Fr.of_below HB0.out
  have HMO0 := hid (HMO.out.fr hF0 id)
  have HCA0 := hid (HCA.out.fr hF0 id (fun _ _ _ => id) (fun _ _ _ => id))
  have HFR0 := hid (show Fr (· = mc) w w0 from (Fr.of_below HA.out).trans (Fr.of_below HB0.out))
  clear hF0 hz
  go_loopg [] d.length (fun kx wr => ∃ (done left : Dir) (φr : List (Nat × Nat)), left.length ≤ kx ∧ Hid ((done ++ left).Perm d) ∧ Hid (IterG Value.string ekP wr mn (w.heap.size + 1) d left) ∧ Hid (MapG Value.string ekP wr w.heap.size (toC φr done)) ∧ Hid (Copies wr F D base st mc φr) ∧ Hid (∀ p ∈ done, (dget φr p.2).isSome = true) ∧ Hid (Ext φ φr) ∧ Hid (Fr (· = mc) w wr))
  case atStart => exact ⟨[], d, φ, Nat.le_refl _, hid (List.Perm.refl _), HIT, HMO0, HCA0, hid (by simp), hid (fun _ _ h => h), HFR0⟩
  case round =>
    obtain ⟨done, left, φr, hk, HP, HI, HMr, HCr, HDn, HE, HFR⟩ := hrel
    have hwr := HFR.out.size
    go_wp2_with (at_next; refine wpl_nextG rfl rfl HI.out rfl ?_ ?_)
    · intro hnil
      subst hnil
      go_wp2
      go_ret
      have hp := HP.out
      rw [List.append_nil] at hp
      exact ⟨w.heap.size, rfl, φr, toC φr done, Nat.le_refl _, HMr.out, HCr.out, hp.map _, fun p hpd => HDn.out p (hp.mem_iff.2 hpd), HE.out, HFR.out⟩
    · intro n p left' w1 hperm hit1 hf1 hs1 hen
      have hz := HZ.out
      have hmo := HMr.out.lt
      have hmcb := HMC.out
      have hmem : (n, p) ∈ d := HP.out.mem_iff.1 (List.mem_append.2 (.inr (hperm.mem_iff.2 (by simp))))
      obtain ⟨x, hx⟩ := Option.isSome_iff_exists.1 (HD.out _ hmem)
      simp only at hx
      have hFw1 : Fr (· = mc) w w1 := HFR.out.trans' hf1 (fun i hi e => by omega)
      have hH1 : FSr w1 F D sb st := HH.out.fr hFw1 (fun k hk e => by have := HB.out k hk; omega)
      have hC1 : Copies w1 F D base st mc φr := HCr.out.fr hf1 (by omega) (fun a b hab => by
        obtain ⟨_, _, _, _, h3, _⟩ := HCr.out.each a b hab
        exact iter_ne HI.out h3) (fun k hk _ e => by have := HB.out k hk; have := HW.out; omega)
      have HCF := hid (cpFile_ok w1 hH1 HB.out (Nat.le_trans HW.out hFw1.size) hC1 hx)
      have HM1 := hid (HMr.out.fr hf1 (by omega))
      have HI1 := hid hit1
      have HPM := hid hperm
      have HFW1 := hid hFw1
      have hen1 := hen w1 (Fr.refl _ _)
      simp only [ekP_def] at hen1
      have hlen := hperm.length_eq
      simp only [List.length_cons] at hlen
      clear hmem hx hH1 hC1 hit1 hf1 hs1 hen hperm hFw1
      go_wp2_with (first
        | (go_at_call 35; refine HCF.out.mono ?_; rintro e w2 ⟨q, rfl, φ2, hc2, hg2, he2, hf2⟩; have HC2 := hid hc2; have HG2 := hid hg2; have HE2 := hid he2; have HF2 := hid hf2; have HM2 := hid (HM1.out.fr hf2 (by omega)); clear hc2 hg2 he2 hf2)
        | (at_mapUpdate; refine wpl_updateG (v := q) rfl rfl keyNm r_names HM2.out (fun _ _ => trivial) trivial rfl rfl rfl ?_; intro w3 hm3 hf3 hs3; have HM3 := hid hm3; have HF3 := hid hf3; clear hm3 hf3 hs3))
      go_roundg left'.length
      case measure => omega
      case rel =>
        have hnd : (d.map Prod.fst).Nodup := HM0.out.nodup
        have hpd : (done ++ (n, p) :: left').Perm d := ((List.Perm.append_left done HPM.out).symm).trans HP.out
        have hnn : n ∉ done.map Prod.fst := by
          have h9 := (hpd.map Prod.fst).nodup_iff.2 hnd
          rw [List.map_append, List.nodup_append] at h9
          exact fun hin => h9.2.2 n hin n (by simp) rfl
        have hext : toC φ2 done = toC φr done := toC_ext HE2.out HDn.out
        have hput : dput (toC φr done) n q = toC φ2 (done ++ [(n, p)]) := by
          have hk : n ∉ (toC φr done).map Prod.fst := by
            unfold toC
            rw [List.map_map]
            exact hnn
          unfold dput
          rw [if_neg hk, ← hext]
          unfold toC
          rw [List.map_append]
          simp [HG2.out]
        refine ⟨done ++ [(n, p)], left', φ2, Nat.le_refl _, hid (by rw [List.append_assoc]; exact hpd), hid ?_, hid (by rw [← hput]; exact HM3.out), hid ?_, hid (fun p' hp' => ?_), hid (fun a b hab => HE2.out a b (HE.out a b hab)), hid ?_⟩
        · exact (HI1.out.fr HF2.out (by omega) (by omega)).fr HF3.out (by have := HW.out; omega) (by omega)
        · refine HC2.out.fr HF3.out (by omega) (fun a b hab => ?_) (fun k hk _ e => by have := HB.out k hk; have := HW.out; omega)
          obtain ⟨_, _, _, _, h3, _⟩ := HC2.out.each a b hab
          exact mapG_ne_cells HM2.out h3
        · rcases List.mem_append.1 hp' with hp' | hp'
          · obtain ⟨b, hb⟩ := Option.isSome_iff_exists.1 (HDn.out p' hp')
            rw [HE2.out _ _ hb]; rfl
          · simp at hp'
            subst hp'
            rw [HG2.out]; rfl
        · exact (HFW1.out.trans HF2.out).trans' HF3.out (fun i hi e => by omega)
end Go.Proofs.YtgehalfnpbjjcaaGreat
