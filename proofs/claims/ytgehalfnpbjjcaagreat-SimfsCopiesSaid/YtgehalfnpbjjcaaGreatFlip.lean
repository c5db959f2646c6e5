/- simfs: Flip. -/
import Derived.Test.YtgehalfnpbjjcaaGreatSimS
import Derived.Test.YtgehalfnpbjjcaaGreatAlive06
import Derived.Test.YtgehalfnpbjjcaaGreatUpKit
import Derived.Laws.BitsAllLaws
namespace Go.Proofs.YtgehalfnpbjjcaaGreat
open Go Go.RowKit Go.Sort
section
variable {w w' : World} {F D : Nat → Prop} {sb : Nat} {st : FSt} {m1 m2 : Nat} {ch : Value}
/-- A file is turned, and a new block that it leads to from now on. -/
theorem FSo.setFile2 (h : FSo w F D sb st m1 m2 ch) {p g : Nat} {x y : Fil} (hx : st.files p = some x) (hg : ¬ D g) (hf : Fr (fun k => k = p ∨ k = g) w w') {v : Value} (hp : w'.heap[p]? = some (.cells #[v, .int .i64 (y.safe : Int)] 87 (0, 0))) {D' : Nat → Prop} (hD : ∀ k, D k → D' k) (hb : Bs (fun k => D' k → F k) w' v y.b) :
    FSo w' F D' sb { st with files := putFil st.files p y } m1 m2 ch := by
  obtain ⟨g1, v0, g2, _⟩ := h.files p x hx
  have hgF : ∀ k, F k → k ≠ g := fun k hk e => hg (e ▸ h.sub k hk)
  have hk : ∀ k, D k → ¬ F k → ¬ (k = p ∨ k = g) := fun k hD hF e => e.elim (fun e => hF (e ▸ g1)) (fun e => hg (e ▸ hD))
  exact {
    head := hf.heap h.head (fun e => e.elim (fun e => h.ne_file g2 e.symm) (hgF _ h.self))
    self := h.self
    f1 := h.f1
    f2 := h.f2
    ne := h.ne
    seen := h.seen.fr hf (fun e => e.elim (fun e => mapG_ne_cells h.seen g2 e.symm) (hgF _ h.f1))
    safe := h.safe.fr hf (fun e => e.elim (fun e => mapG_ne_cells h.safe g2 e.symm) (hgF _ h.f2))
    own := h.own.fr hf (fun k hk e => e.elim (fun e => by
      obtain ⟨cur, hc⟩ := own_mine h.own hk
      subst e
      rw [g2] at hc
      injection hc with hc
      injection hc with _ hc
      exact absurd hc (by decide)) (hgF _ (h.hm k hk)))
    hm := h.hm
    files := fun q z hq => by
      simp only [putFil] at hq
      split at hq
      · rename_i e
        injection hq with hq
        subst e hq
        exact ⟨g1, v, hp, hb⟩
      · rename_i hne
        obtain ⟨e1, u, e2, e3⟩ := h.files q z hq
        exact ⟨e1, u, hf.heap e2 (fun e => e.elim hne (hgF _ e1)), (e3.dep hf hk).mono (fun k _ hs hd => hs (hD k hd))⟩
    sub := fun k hk => hD k (h.sub k hk) }
end
theorem set_byte {xs : List UInt8} {j : Nat} (hj : j < xs.length) (u : UInt8) : (bcells xs).set j (bcell (xs[j] ^^^ u)) = bcells (xs.modify j (· ^^^ u)) := by
  unfold bcells
  rw [← List.map_set]
  congr 1
  refine List.ext_getElem? fun i => ?_
  rw [List.getElem?_set, List.getElem?_modify]
  by_cases hij : j = i
  · subst hij
    rw [if_pos rfl, if_pos hj, List.getElem?_eq_getElem hj]
    simp
  · rw [if_neg hij]
    cases xs[i]? <;> simp [hij]
set_option maxHeartbeats 1000000 in
set_option maxRecDepth 100000 in
theorem fsFlip_ok {F D : Nat → Prop} {sb : Nat} {st : FSt} (w : World) (h : FSr w F D sb st) (n : ByteArray) (i : Int) (u : UInt8) :
    Calls Tryz.prog 32 #[.pointer (some ⟨sb, 0, none⟩), .string n, .int .i64 i, bcell u] w fun e w' => e = .returned (.int .i64 (flipF st n i u).2) ∧ ∃ F' D', FSr w' F' D' sb (flipF st n i u).1 ∧ Turn F D F' D' w w' := by
  have HF := hid (fsFind_ok w h n)
  have HH := hid h
  clear h
  cases hfo : findF st n with
  | mk f o =>
  rw [hfo] at HF
  unfold findC at HF
  by_cases h0 : f = 0
  · subst h0
    obtain ⟨p, rfl⟩ := findF_some hfo
    obtain ⟨x, hx⟩ := Option.isSome_iff_exists.1 (HH.out.ok.seenI _ (mem_seen hfo)).1
    simp only at hx
    have hbf : bytesF st p = x.b := by unfold bytesF; rw [hx]
    unfold flipF
    rw [hfo]
    simp only
    rw [hbf]
    by_cases hc : i < 0 ∨ (x.b.length : Int) ≤ i
    · rw [if_pos hc]
      simp only [Option.map_some] at HF
      have HX := hid hx
      have HRD := hid (show ∀ w1, Below w.heap.size w w1 → ∃ a c, w1.cell? ⟨p, 0, none⟩ = some (.slice a x.b.length c) from fun w1 hb => by
        obtain ⟨m1, m2, ca, cc, ho⟩ := (HH.out.below hb).lies
        obtain ⟨_, v, hv, hbs⟩ := ho.files p x HX.out
        obtain ⟨a, c, rfl, _⟩ := id hbs
        exact ⟨a, c, cell_of_heap hv 0⟩)
      clear hfo hx hbf
      unfold bcell
      by_cases hc1 : i < 0
      · have t1 : decide (i < 0) = true := decide_eq_true hc1
        clear hc
        go_enter Tryz.func32, Tryz.ntmps32
        go_wp2_with (go_at_call 40; refine HF.out.mono ?_; rintro e w1 ⟨rfl, hb1⟩; have HB1 := hid hb1; clear hb1)
        go_ret
        exact ⟨rfl, HH.out.same HB1.out⟩
      · have t1 : decide (i < 0) = false := decide_eq_false hc1
        have hc2 : (x.b.length : Int) ≤ i := hc.resolve_left hc1
        have t2 : decide ((x.b.length : Int) ≤ i) = true := decide_eq_true hc2
        clear hc
        go_enter Tryz.func32, Tryz.ntmps32
        go_wp2_with (go_at_call 40; refine HF.out.mono ?_; rintro e w1 ⟨rfl, hb1⟩; obtain ⟨xa, xc, hxc⟩ := HRD.out w1 hb1; have HB1 := hid hb1; clear hb1)
        go_ret
        exact ⟨rfl, HH.out.same HB1.out⟩
    · rw [if_neg hc, hx]
      simp only
      obtain ⟨j, rfl⟩ : ∃ j : Nat, i = (j : Int) := ⟨i.toNat, by omega⟩
      have hj : j < x.b.length := by omega
      have HX := hid hx
      simp only [Option.map_some] at HF
      have hc1 : ¬ (j : Int) < 0 := by omega
      have hc2 : ¬ (x.b.length : Int) ≤ (j : Int) := by omega
      clear hfo hx hbf hc
      go_enter Tryz.func32, Tryz.ntmps32
      go_wp2_with fail
      refine HF.out.mono ?_
      rintro e w1 ⟨rfl, hb1⟩
      obtain ⟨m1, m2, ca, cc, ho⟩ := (HH.out.below hb1).lies
      obtain ⟨hFp, v, hv, hbs⟩ := ho.files p x HX.out
      obtain ⟨fa, fc, rfl, hfit, _⟩ := id hbs
      have k0 : w1.cell? ⟨p, 0, none⟩ = some (.slice fa x.b.length fc) := cell_of_heap hv 0
      have HCL := hid (cloneBB_ok (.slice fa x.b.length fc) x.b w1 hbs)
      have HO := hid ho
      have HV := hid hv
      have HB1 := hid hb1
      clear ho hv hbs hb1 hfit
      go_wp2_with fail
      refine HCL.out.mono ?_
      rintro e w2 ⟨ga, gc, rfl, hown, hb2⟩
      obtain ⟨hl0, ⟨h0, _⟩ | ⟨g, cap, cur, hgv, hgb, hgh, hgn, hgz, hgt⟩⟩ := id hown
      · omega
      injection hgv with e1 e2 e3
      subst e1 e3
      have hf2 : Fr (fun _ => False) w1 w2 := Fr.of_below hb2
      have hpl := lt_of_heap HV.out
      have hne : p ≠ g := by omega
      have hne' : g ≠ p := by omega
      have hv2 := hf2.heap HV.out id
      have k02 : w2.cell? ⟨p, 0, none⟩ = some (.slice fa x.b.length fc) := cell_of_heap hv2 0
      have z02 := frozen_of hv2 0
      have kg : w2.cell? ⟨g, j, none⟩ = some (bcell x.b[j]) := by
        have h9 := (Own.cellAt hown (i := j) (by omega)).2
        rw [h9]
        unfold bcells
        rw [List.getElem?_map, List.getElem?_eq_getElem hj]
        rfl
      have zg := frozen_of hgh j
      have HOWN := hid hown
      have HB2 := hid hb2
      have HGH := hid hgh
      have HV2 := hid hv2
      have HGB := hid hgb
      have gn1 := hgn.1
      have gn2 := hgn.2.2
      clear hown hb2 hgh hv2 hf2 hgb hl0 hgz hgt HCL
      have hxor : bits .xor .u8 (x.b[j].toNat : Int) (u.toNat : Int) = ((x.b[j] ^^^ u).toNat : Int) := by
        rw [u8_xor_nat _ _ x.b[j].toNat_lt u.toNat_lt, UInt8.toNat_xor]
      unfold bcell at kg ⊢
      go_wp2
      go_ret
      obtain ⟨w3, hw3⟩ : ∃ w3, w2.setCell ⟨p, 0, none⟩ (.slice (some ⟨g, 0, none⟩) x.b.length gc) = w3 := ⟨_, rfl⟩
      have hf3 : Fr (· = p) w2 w3 := by rw [← hw3]; exact (Fr.refl (· = p) w2).setCell (fun _ => rfl) _
      have hh3 : w3.heap[p]? = some (.cells #[.slice (some ⟨g, 0, none⟩) x.b.length gc, .int .i64 (x.safe : Int)] 87 (0, 0)) := by rw [← hw3]; exact (heap_store HV2.out 0 _).trans rfl
      rw [hw3]
      have ho3 := Own.fr HOWN.out hf3 (fun k hk e => by have := (Own.mine_ge HOWN.out hk).1; omega)
      obtain ⟨_, ho4⟩ := Own.store ho3 j (by omega) (bcell (x.b[j] ^^^ u))
      rw [set_byte hj] at ho4
      obtain ⟨w4, hw4⟩ : ∃ w4, w3.setCell ⟨g, j, none⟩ (bcell (x.b[j] ^^^ u)) = w4 := ⟨_, rfl⟩
      have hf4 : Fr (· = g) w3 w4 := by rw [← hw4]; exact (Fr.refl (· = g) w3).setCell (fun _ => rfl) _
      rw [hw4] at ho4
      show _ ∧ ∃ F' D', FSr (w3.setCell ⟨g, j, none⟩ (bcell (x.b[j] ^^^ u))) F' D' sb _ ∧ Turn F D F' D' w (w3.setCell ⟨g, j, none⟩ (bcell (x.b[j] ^^^ u)))
      rw [hw4]
      have hh4 := hf4.heap hh3 hne
      have hlen : (x.b.modify j (· ^^^ u)).length = x.b.length := by simp
      have hb4 : Bs (fun k => (D k ∨ (w1.heap.size ≤ k ∧ k < w4.heap.size)) → F k) w4 (.slice (some ⟨g, 0, none⟩) x.b.length gc) (x.b.modify j (· ^^^ u)) := Bs.of_row (ho4.row (fun k h1 h2 hS => by have := HH.out.ltF (hS (.inr ⟨h1, h2⟩)); have := HB1.out.size; omega))
      have hnD : ¬ D g := fun hd => by have := HH.out.lt g hd; have := HB1.out.size; have := HGB.out; omega
      have hq := (HO.out.below HB2.out).setFile2 (y := ⟨x.b.modify j (· ^^^ u), x.safe⟩) (D' := fun k => D k ∨ (w1.heap.size ≤ k ∧ k < w4.heap.size)) HX.out hnD ((hf3.mono (fun _ _ e => .inl e)).trans (hf4.mono (fun _ _ e => .inr e))) hh4 (fun _ h => .inl h) hb4
      have hxo := HH.out.ok.fil p x HX.out
      have hfin := hq.shut (HH.out.ok.put (p := p) (x := ⟨x.b.modify j (· ^^^ u), x.safe⟩) (by simp only [List.length_modify]; exact hxo))
      have s1 := HB1.out.size
      have s2 := HB2.out.size
      refine ⟨rfl, _, _, hfin, ?_, fun k hk => .inl hk.1, fun k hk => hk.1.imp id (fun h => by omega)⟩
      have q1 : Fr F w w1 := Fr.of_below HB1.out
      have q2 : Fr F w w2 := q1.trans' (Fr.of_below HB2.out : Fr (fun _ => False) w1 w2) (fun _ _ h => h.elim)
      have q3 : Fr F w w3 := q2.trans (hf3.mono (fun _ _ e => e ▸ hFp))
      exact q3.trans' hf4 (fun k hk e => by have := HGB.out; omega)
  · have hne : f ≠ 0 := h0
    have hfl : flipF st n i u = (st, f) := by
      unfold flipF
      rw [hfo]
      cases f with
      | ofNat f => cases f with
        | zero => exact absurd rfl h0
        | succ f => rfl
      | negSucc f => rfl
    rw [hfl]
    refine (fsFlip_no w HH.out n (.int .i64 i) (bcell u) hfo h0).mono ?_
    rintro e w' ⟨rfl, hb⟩
    exact ⟨rfl, HH.out.same hb⟩
end Go.Proofs.YtgehalfnpbjjcaaGreat
