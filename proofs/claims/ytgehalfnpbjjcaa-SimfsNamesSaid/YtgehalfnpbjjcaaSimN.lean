/- simfs: Append. -/
import Derived.Test.YtgehalfnpbjjcaaSimM
namespace Go.Proofs.Ytgehalfnpbjjcaa
open Go Go.RowKit Go.Sort
theorem lt_of_cell {w : World} {b o : Nat} {v : Value} (h : w.cell? ⟨b, o, none⟩ = some v) : b < w.heap.size := by
  unfold World.cell? at h
  by_cases hlt : b < w.heap.size
  · exact hlt
  · rw [Array.getElem?_eq_none (xs := w.heap) (i := b) (by omega)] at h; cases h
set_option maxHeartbeats 1000000 in
set_option maxRecDepth 100000 in
theorem fsAppend1_ok {F D S : Nat → Prop} {sb m1 m2 : Nat} {s : FSt} {ch : Value} (w : World) (h : FSo w F D sb s m1 m2 ch) (hD : ∀ k, w.heap.size ≤ k → D k ∧ ¬ F k) {p : Nat} {x : Fil} (hx : s.files p = some x) (b1 b2 : Nat) (k1 : w.cell? ⟨b1, 0, none⟩ = some (.pointer (some ⟨p, 0, none⟩)))
    {v : Value} {ys : List UInt8} (k2 : w.cell? ⟨b2, 0, none⟩ = some v) (hv : Bs S w v ys) (hlen : x.b.length + ys.length ≤ 1000000) :
    Calls Try.prog 40 #[.pointer (some ⟨b1, 0, none⟩), .pointer (some ⟨b2, 0, none⟩)] w fun e w' => e = .returned (.tuple #[]) ∧ FSo w' F D sb { s with files := putFil s.files p ⟨x.b ++ ys, x.safe⟩ } m1 m2 ch ∧ Fr F w w' := by
  obtain ⟨hF, v0, hv0, hb⟩ := h.files p x hx
  have mixed : Try.prog.follows .mixedOrders = true := by kernel_rfl
  have HB := hid (hb.mono (S' := fun _ => False) (fun _ _ h => h.elim))
  have HV := hid (hv.mono (S' := fun _ => False) (fun _ _ h => h.elim))
  obtain ⟨a, c, rfl, _⟩ := hb
  obtain ⟨a2, c2, rfl, _⟩ := hv
  have c0 : w.cell? ⟨p, 0, none⟩ = some (.slice a x.b.length c) := cell_of_heap hv0 0
  have hbw : Below w.heap.size w (w.alloc (.cells #[.slice a x.b.length c, .slice a2 ys.length c2] 30)).drew := ((Below.refl _ _).alloc (Nat.le_refl _) _).drew
  have hcc := concatB_ok (S := fun _ => False) (w.alloc (.cells #[.slice a x.b.length c, .slice a2 ys.length c2] 30)).drew w.heap.size _ _ x.b ys (heap_alloc_new w _) (HB.out.fr (Fr.of_below hbw : Fr (fun _ => False) _ _) (fun _ _ h => h.elim)) (HV.out.fr (Fr.of_below hbw : Fr (fun _ => False) _ _) (fun _ _ h => h.elim)) hlen
  have HCC := hid hcc
  have HBW := hid hbw
  have HH := hid h
  have HX := hid hx
  have HV0 := hid hv0
  have HHF := hid (show ∀ w3, Below w.heap.size w w3 → w3.heap[p]? = some (.cells #[.slice a x.b.length c, .int .i64 (x.safe : Int)] 81 (0, 0)) from fun w3 hb => (hb.block _ (lt_of_heap hv0)).trans hv0)
  have ka : (w.alloc (.cells #[.slice a x.b.length c, .slice a2 ys.length c2] 30)).cell? ⟨b1, 0, none⟩ = some (.pointer (some ⟨p, 0, none⟩)) := (hbw.cell (p := ⟨b1, 0, none⟩) (lt_of_cell k1)).trans k1
  have HK := hid (show ∀ w3, Below w.heap.size w w3 → w3.cell? ⟨b1, 0, none⟩ = some (.pointer (some ⟨p, 0, none⟩)) from fun w3 hb => (hb.cell (p := ⟨b1, 0, none⟩) (lt_of_cell k1)).trans k1)
  clear hcc hbw h hx hv0
  generalize x.b ++ ys = L at *
  go_enter Try.func40, Try.ntmps40
  go_wp2_with fail
  go_region_law_o ((go_simp; go_at_call 41; refine HCC.out.mono ?_; rintro e w3 ⟨a3, c3, rfl, ho, hb3⟩; have hb33 := Below.below HBW.out hb3; have c0' : w3.cell? ⟨p, 0, none⟩ = some (.slice a x.b.length c) := cell_of_heap (HHF.out _ hb33) 0; have f0' := frozen_of (HHF.out _ hb33) 0; have kb := HK.out _ hb33; have HO := hid ho; have HB3 := hid hb3; have HB33 := hid hb33; clear ho hb3 hb33))
  all_goals
    go_end0
    have hset := heap_store (HHF.out _ HB33.out) 0 (.slice a3 L.length c3)
    have hfr : Fr (· = p) w3 (w3.setCell ⟨p, 0, none⟩ (.slice a3 L.length c3)) := (Fr.refl (· = p) w3).setCell (fun _ => rfl) _
    have hbs : Bs (fun k => D k → F k) w3 (.slice a3 L.length c3) L := OwnB.bs HO.out (fun k h1 _ h3 => (hD k (Nat.le_trans HBW.out.size h1)).2 (h3 (hD k (Nat.le_trans HBW.out.size h1)).1))
    exact ⟨rfl, (HH.out.below HB33.out).setFile (y := ⟨L, x.safe⟩) HX.out hfr (hset.trans rfl) hbs, (Fr.of_below HB33.out : Fr F w w3).trans (hfr.mono (fun k _ e => e ▸ hF))⟩
end Go.Proofs.Ytgehalfnpbjjcaa
