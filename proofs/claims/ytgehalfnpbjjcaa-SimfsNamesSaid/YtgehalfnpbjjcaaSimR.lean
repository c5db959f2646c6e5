/- simfs: a directory's copy. -/
import Derived.Test.YtgehalfnpbjjcaaSimQ
namespace Go.Proofs.Ytgehalfnpbjjcaa
open Go Go.RowKit Go.Sort
def toC (φ : List (Nat × Nat)) (d : Dir) : Dir := d.map fun p => (p.1, (dget φ p.2).getD 0)
def Ext (φ φ' : List (Nat × Nat)) : Prop := ∀ a b, dget φ a = some b → dget φ' a = some b
theorem toC_ext {φ φ' : List (Nat × Nat)} (h : Ext φ φ') : ∀ {d : Dir}, (∀ p ∈ d, (dget φ p.2).isSome = true) → toC φ' d = toC φ d
  | [], _ => rfl
  | a :: d, hd => by
    obtain ⟨b, hb⟩ := Option.isSome_iff_exists.1 (hd a (by simp))
    unfold toC
    rw [List.map_cons, List.map_cons, h _ _ hb, hb]
    have := toC_ext h (d := d) (fun p hp => hd p (by simp [hp]))
    unfold toC at this
    rw [this]
theorem iter_ne {α β : Type} {ek : α → Value} {ev : β → Value} {w : World} {m r : Nat} {d l : List (α × β)} (h : IterG ek ev w m r d l) {p : Nat} {cs : Array Value} {t : TypeId} (hp : w.heap[p]? = some (.cells cs t (0, 0))) : p ≠ r := by
  obtain ⟨es, clock, since, seen, c0, _, _, _, _, _, h6, _⟩ := h
  intro e
  rw [e, h6] at hp
  cases hp
set_option maxHeartbeats 2000000 in
set_option maxRecDepth 100000 in
theorem cpNames_ok {F D : Nat → Prop} {sb base mc : Nat} {st : FSt} {φ : List (Nat × Nat)} (w : World) (h : FSr w F D sb st) (hb : ∀ k, D k → k < base) (hw : base ≤ w.heap.size) (hC : Copies w F D base st mc φ) {mn : Nat} {d : Dir} (hm : MapG Value.string ekP w mn d) (hmn : mn < base) (hd : ∀ p ∈ d, (st.files p.2).isSome = true) :
    Calls Try.prog 60 #[.map (some mc), .map (some mn)] w fun e w' => ∃ mo, e = .returned (.map (some mo)) ∧ ∃ φ' d', w.heap.size ≤ mo ∧ MapG Value.string ekP w' mo d' ∧ Copies w' F D base st mc φ' ∧ d'.Perm (toC φ' d) ∧ (∀ p ∈ d, (dget φ' p.2).isSome = true) ∧ Ext φ φ' ∧ Fr (· = mc) w w' := by
  have hmm := @run_makeMap Try.prog
  have hmcl := hC.map.lt
  have HH := hid h
  have HB := hid hb
  have HW := hid hw
  have HM0 := hid hm
  have HD := hid hd
  have HMC := hid hC.mc
  have hba : Below w.heap.size w (w.alloc (.map #[] 0)) := (Below.refl _ _).alloc (Nat.le_refl _) _
  have HA := hid hba
  have HMN := hid (hm.fr (Fr.of_below hba : Fr (fun _ => False) _ _) id)
  have HMO := hid (show MapG Value.string ekP (w.alloc (.map #[] 0)) w.heap.size [] from MapG.made)
  have HCA := hid (hC.fr (Fr.of_below hba : Fr (fun _ => False) _ _) id (fun _ _ _ => id) (fun _ _ _ => id))
  clear h hC hm hba hb hd
  go_enter Try.func60, Try.ntmps60
  go_wp2_with (at_range; refine wpl_rangeG rfl rfl Try.underlying64 HMN.out rfl ?_; intro w0 hit hb0 hs0; have HIT := hid hit; have HB0 := hid hb0; clear hit hb0 hs0)
  go_frame
  have hz : (w.alloc (.map #[] 0)).heap.size = w.heap.size + 1 := by simp
  rw [hz] at HIT ⊢
  have HZ := hid hz
  have hF0 : Fr (fun _ => False) (w.alloc (.map #[] 0)) w0 := Fr.of_below HB0.out
  have HMO0 := hid (HMO.out.fr hF0 id)
  have HCA0 := hid (HCA.out.fr hF0 id (fun _ _ _ => id) (fun _ _ _ => id))
  have HFR0 := hid (show Fr (· = mc) w w0 from (Fr.of_below HA.out).trans (Fr.of_below HB0.out))
  clear hF0 hz
  go_loopg [] d.length (fun kx wr => ∃ (done left : Dir) (φr : List (Nat × Nat)), left.length ≤ kx ∧ Hid ((done ++ left).Perm d) ∧ Hid (IterG Value.string ekP wr mn (w.heap.size + 1) d left) ∧ Hid (MapG Value.string ekP wr w.heap.size (toC φr done)) ∧ Hid (Copies wr F D base st mc φr) ∧ Hid (∀ p ∈ done, (dget φr p.2).isSome = true) ∧ Hid (Ext φ φr) ∧ Hid (Fr (· = mc) w wr))
  case atStart => exact ⟨[], d, φ, Nat.le_refl _, hid (List.Perm.refl _), HIT, HMO0, HCA0, hid (by simp), hid (fun _ _ h => h), HFR0⟩
  case round =>
    obtain ⟨done, left, φr, hk, HP, HI, HMr, HCr, HDn, HE, HFR⟩ := hrel
    have hwr := HFR.out.size
    go_wp2_with (at_next; refine wpl_nextG rfl rfl HI.out rfl ?_ ?_)
    · intro hnil
      subst hnil
      go_wp2
      go_ret
      have hp := HP.out
      rw [List.append_nil] at hp
      exact ⟨w.heap.size, rfl, φr, toC φr done, Nat.le_refl _, HMr.out, HCr.out, hp.map _, fun p hpd => HDn.out p (hp.mem_iff.2 hpd), HE.out, HFR.out⟩
    · intro n p left' w1 hperm hit1 hf1 hs1 hen
      have hz := HZ.out
      have hmo := HMr.out.lt
      have hmcb := HMC.out
      have hmem : (n, p) ∈ d := HP.out.mem_iff.1 (List.mem_append.2 (.inr (hperm.mem_iff.2 (by simp))))
      obtain ⟨x, hx⟩ := Option.isSome_iff_exists.1 (HD.out _ hmem)
      simp only at hx
      have hFw1 : Fr (· = mc) w w1 := HFR.out.trans' hf1 (fun i hi e => by omega)
      have hH1 : FSr w1 F D sb st := HH.out.fr hFw1 (fun k hk e => by have := HB.out k hk; omega)
      have hC1 : Copies w1 F D base st mc φr := HCr.out.fr hf1 (by omega) (fun a b hab => by
        obtain ⟨_, _, _, _, h3, _⟩ := HCr.out.each a b hab
        exact iter_ne HI.out h3) (fun k hk _ e => by have := HB.out k hk; have := HW.out; omega)
      have HCF := hid (cpFile_ok w1 hH1 HB.out (Nat.le_trans HW.out hFw1.size) hC1 hx)
      have HM1 := hid (HMr.out.fr hf1 (by omega))
      have HI1 := hid hit1
      have HPM := hid hperm
      have HFW1 := hid hFw1
      have hen1 := hen w1 (Fr.refl _ _)
      simp only [ekP_def] at hen1
      have hlen := hperm.length_eq
      simp only [List.length_cons] at hlen
      clear hmem hx hH1 hC1 hit1 hf1 hs1 hen hperm hFw1
      go_wp2_with (first
        | (go_at_call 61; refine HCF.out.mono ?_; rintro e w2 ⟨q, rfl, φ2, hc2, hg2, he2, hf2⟩; have HC2 := hid hc2; have HG2 := hid hg2; have HE2 := hid he2; have HF2 := hid hf2; have HM2 := hid (HM1.out.fr hf2 (by omega)); clear hc2 hg2 he2 hf2)
        | (at_mapUpdate; refine wpl_updateG (v := q) rfl rfl keyNm r_names HM2.out (fun _ _ => trivial) trivial rfl rfl rfl ?_; intro w3 hm3 hf3 hs3; have HM3 := hid hm3; have HF3 := hid hf3; clear hm3 hf3 hs3))
      go_roundg left'.length
      case measure => omega
      case rel =>
        have hnd : (d.map Prod.fst).Nodup := HM0.out.nodup
        have hpd : (done ++ (n, p) :: left').Perm d := ((List.Perm.append_left done HPM.out).symm).trans HP.out
        have hnn : n ∉ done.map Prod.fst := by
          have h9 := (hpd.map Prod.fst).nodup_iff.2 hnd
          rw [List.map_append, List.nodup_append] at h9
          exact fun hin => h9.2.2 n hin n (by simp) rfl
        have hext : toC φ2 done = toC φr done := toC_ext HE2.out HDn.out
        have hput : dput (toC φr done) n q = toC φ2 (done ++ [(n, p)]) := by
          have hk : n ∉ (toC φr done).map Prod.fst := by
            unfold toC
            rw [List.map_map]
            exact hnn
          unfold dput
          rw [if_neg hk, ← hext]
          unfold toC
          rw [List.map_append]
          simp [HG2.out]
        refine ⟨done ++ [(n, p)], left', φ2, Nat.le_refl _, hid (by rw [List.append_assoc]; exact hpd), hid ?_, hid (by rw [← hput]; exact HM3.out), hid ?_, hid (fun p' hp' => ?_), hid (fun a b hab => HE2.out a b (HE.out a b hab)), hid ?_⟩
        · exact (HI1.out.fr HF2.out (by omega) (by omega)).fr HF3.out (by have := HW.out; omega) (by omega)
        · refine HC2.out.fr HF3.out (by omega) (fun a b hab => ?_) (fun k hk _ e => by have := HB.out k hk; have := HW.out; omega)
          obtain ⟨_, _, _, _, h3, _⟩ := HC2.out.each a b hab
          exact mapG_ne_cells HM2.out h3
        · rcases List.mem_append.1 hp' with hp' | hp'
          · obtain ⟨b, hb⟩ := Option.isSome_iff_exists.1 (HDn.out p' hp')
            rw [HE2.out _ _ hb]; rfl
          · simp at hp'
            subst hp'
            rw [HG2.out]; rfl
        · exact (HFW1.out.trans HF2.out).trans' HF3.out (fun i hi e => by omega)
end Go.Proofs.Ytgehalfnpbjjcaa
