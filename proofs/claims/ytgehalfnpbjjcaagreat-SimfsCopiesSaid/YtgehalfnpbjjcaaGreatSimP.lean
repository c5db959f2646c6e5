/- A map laid bare whose keys are strings is a map that the world owns: its keys, for the library's sort. -/
import Derived.Test.YtgehalfnpbjjcaaGreatMapP
import Derived.Sort.KeysCollected
import Derived.StringKeys
import Derived.Test.YtgehalfnpbjjcaaGreatSimO
namespace Go.Proofs.YtgehalfnpbjjcaaGreat
open Go Go.RowKit Go.MapKept Go.WideShapes
open Go.WideElems (Fit rd rg pl rd_key rd_val rg_of other_key)
theorem MapG.owns {β : Type} {P : Program} {tk : TypeId} {ev : β → Value} (u_tk : P.underlying tk = some .string) {w : World} {m : Nat} {d : List (ByteArray × β)} (h : MapG Value.string ev w m d) (hlen : ∀ p ∈ d, p.1.size ≤ maxLen) (hn : d.length ≤ maxLen) :
    ∃ D0 : DataW Unit, w.ownsMap P tk (fun _ => some (.nil, [])) m d.length D0 ∧ (strKeys D0).Perm (d.map fun p => p.1.data.toList) ∧ Maps.size D0 = d.length := by
  obtain ⟨es, clock, h1, h2, h3, h4, h5⟩ := h
  have hsz : es.size = d.length := by have := congrArg List.length h2; simpa using this
  have hk : ∀ x ∈ es.toList, ∃ p ∈ d, x.key = .string p.1 := fun x hx => by
    obtain ⟨j, hj⟩ := List.getElem?_of_mem hx
    obtain ⟨k, v, g1, g2, _⟩ := entry_at h2 hj
    exact ⟨_, List.mem_of_getElem? g1, g2⟩
  have hrd : ∀ x ∈ es.toList, ∀ s, x.key = .string s → rd P tk (fun _ => some ((.nil : DataW Unit), [])) x = some (.string s.data.toList, .nil) := fun x hx s hs => by
    obtain ⟨p, hp, e⟩ := hk x hx
    rw [hs] at e
    injection e with e
    subst e
    unfold rd
    rw [hs, Go.WideMaps.keyOf_string_mk u_tk (hlen p hp)]
    rfl
  have hkeys : es.toList.map (·.key) = (d.map Prod.fst).map Value.string := by
    have := congrArg (List.map Prod.fst) h2
    simpa [List.map_map, Function.comp_def] using this
  have hpw : es.toList.Pairwise (fun x y => x.key ≠ y.key) := by
    have : (es.toList.map (·.key)).Nodup := by
      rw [hkeys]
      exact List.pairwise_map.2 (h5.imp (fun hne e => hne (by injection e)))
    exact List.pairwise_map.1 this
  have hst : (es.toList.map fun x => strOf (rg P tk (fun _ => some ((.nil : DataW Unit), [])) x).1) = d.map fun p => p.1.data.toList := by
    have e1 : (es.toList.map fun x => strOf (rg P tk (fun _ => some ((.nil : DataW Unit), [])) x).1) = (es.toList.map (·.key)).map (fun v => match v with | .string s => s.data.toList | _ => []) := by
      rw [List.map_map]
      refine List.map_congr_left fun x hx => ?_
      obtain ⟨p, hp, e⟩ := hk x hx
      rw [rg_of (hrd x hx _ e)]
      simp only [Function.comp, e]
      rfl
    rw [e1, hkeys, List.map_map, List.map_map]
    rfl
  refine ⟨_, ⟨es, clock, h1, ⟨by rw [hsz]; exact hn, (stamped_iff es clock).2 ⟨h3, h4, hpw⟩, fun x hx => ?_⟩, by rw [hsz]; exact Nat.le_refl _, rfl⟩, ?_, ?_⟩
  · obtain ⟨p, hp, e⟩ := hk x hx
    exact ⟨_, hrd x hx _ e⟩
  · rw [← hst]
    have hp := (sorted_perm (es.toList.map (rg P tk (fun _ => some ((.nil : DataW Unit), []))))).map (fun p => strOf p.1)
    rw [List.map_map] at hp
    exact hp
  · rw [← hsz]
    simp [Maps.size, length_sorted]
end Go.Proofs.YtgehalfnpbjjcaaGreat
/- simfs: List; what fails in Flip. -/
namespace Go.Proofs.YtgehalfnpbjjcaaGreat
open Go Go.RowKit Go.Sort
theorem own_of_row {w : World} {base e size n : Nat} {v : Value} {xs : List Value} (h : w.ownsRow base e size v n xs) (hn : n ≤ 140737488355328) : Own w base e size v n xs := by
  obtain ⟨h0, ⟨rfl, rfl⟩ | ⟨g, cap, cur, rfl, hb, hg, h1, h2, h3, h4⟩⟩ := h
  · exact ⟨h0, .inl ⟨rfl, none, rfl⟩⟩
  · exact ⟨h0, .inr ⟨g, cap, cur, rfl, hb, hg, ⟨h1, hn, h2⟩, h3, h4⟩⟩
theorem nameR_size {n : ByteArray} (h : nameR n = true) : n.size ≤ 40 := by
  unfold nameR at h
  simp only [Bool.and_eq_true, decide_eq_true_eq] at h
  exact h.1.2
theorem keys_ok (w : World) (m : Nat) : Calls Tryz.prog 39 #[.map (some m)] w fun e w' => e = .returned (.func (.func 70) #[] #[.pointer (some ⟨w.heap.size, 0, none⟩)]) ∧ w' = w.alloc (.cells #[.map (some m)] 54) :=
  callsIn_wide.1 (Tryz.maps_Keys_39 (some m) w)
theorem sorted_ok (w : World) (m : Nat) (d : Dir) (h : MapG Value.string ekP w m d) (hn : ∀ p ∈ d, nameR p.1 = true) (hl : d.length ≤ 1000000) :
    Calls Tryz.prog 38 #[.func (.func 70) #[] #[.pointer (some ⟨w.heap.size, 0, none⟩)]] (w.alloc (.cells #[.map (some m)] 54)) fun e w' => ∃ a c, e = .returned (.slice a d.length c) ∧ Own w' w.heap.size 9 1 (.slice a d.length c) d.length ((sortN (d.map Prod.fst)).map Value.string) ∧ Below w.heap.size w w' := by
  obtain ⟨D0, hown, hperm, hsz⟩ := h.owns (P := Tryz.prog) (tk := 9) Tryz.underlying9 (fun p hp => by have := nameR_size (hn p hp); unfold maxLen; omega) (by unfold maxLen; omega)
  refine (callsIn_wide.1 (Tryz.slices_Sorted_keys_38_39 m d.length D0 _ w hown (by rw [hsz]; unfold maxLen; omega) (by rw [hsz]; omega))).mono ?_
  rintro e w' ⟨v, ss, rfl, hp, hrow, _, hb⟩
  have hlen : ss.length = d.length := by rw [(hp.trans hperm).length_eq, List.length_map]
  have hs : (ss.mergeSort fun x y => decide (x ≤ y)).map encStr = (sortN (d.map Prod.fst)).map Value.string := by
    have h9 := mergeSort_of_perm (hp.trans hperm)
    show (ss.mergeSort leB).map encStr = _
    rw [h9]
    unfold sortN
    rw [List.map_map, List.map_map]
    rfl
  rw [hs, hlen] at hrow
  have ho := own_of_row hrow (by omega)
  obtain ⟨a, c, rfl, _⟩ := ho.len
  exact ⟨a, c, rfl, Own.mono ho (by simp), Below.below ((Below.refl _ _).alloc (Nat.le_refl _) _) hb⟩
theorem listF_length {st : FSt} (h : st.down = false) : (listF st).length = st.seen.length := by
  unfold listF
  rw [h]
  simp [sortN_length]
set_option maxRecDepth 100000 in
theorem fsList_ok {F D : Nat → Prop} {sb : Nat} {st : FSt} (w : World) (h : FSr w F D sb st) (hl : st.seen.length ≤ 1000000) :
    Calls Tryz.prog 10 #[.pointer (some ⟨sb, 0, none⟩)] w fun e w' => ∃ a c, e = .returned (.slice a (listF st).length c) ∧ Own w' w.heap.size 9 1 (.slice a (listF st).length c) (listF st).length ((listF st).map Value.string) ∧ Below w.heap.size w w' := by
  obtain ⟨m1, m2, ca, cc, ho⟩ := h.lies
  have c1 : w.cell? ⟨sb, 1, none⟩ = some (.map (some m1)) := cell_of_heap ho.head 1
  have c6 : w.cell? ⟨sb, 6, none⟩ = some (.bool st.down) := cell_of_heap ho.head 6
  have HS := hid (sorted_ok w m1 st.seen ho.seen (fun p hp => (h.ok.seenI p hp).2) hl)
  have HK := hid (keys_ok w m1)
  clear ho h
  cases hd : st.down with
  | true =>
    rw [hd] at c6
    rw [show listF st = [] by unfold listF; rw [hd]; rfl]
    go_enter Tryz.func10, Tryz.ntmps10
    go_wp2
    go_ret
    exact ⟨none, 0, rfl, Own.nil _ _ _ _, Below.refl _ _⟩
  | false =>
    rw [hd] at c6
    have hll := listF_length hd
    rw [hll]
    rw [show listF st = sortN (st.seen.map Prod.fst) by unfold listF; rw [hd]; rfl]
    clear hll
    generalize sortN (st.seen.map Prod.fst) = N at *
    go_enter Tryz.func10, Tryz.ntmps10
    go_wp2_with (first | (go_at_call 39; refine HK.out.mono ?_; rintro e w1 ⟨rfl, rfl⟩) | (go_at_call 38; refine HS.out.mono ?_; rintro e w2 ⟨a, c, rfl, ho, hb⟩; have HO := hid ho; have HB := hid hb; clear ho hb))
    go_ret
    exact ⟨a, c, rfl, HO.out, HB.out⟩
set_option maxRecDepth 100000 in
theorem fsFlip_no {F D : Nat → Prop} {sb : Nat} {st : FSt} (w : World) (h : FSr w F D sb st) (n : ByteArray) (i j : Value) {f : Int} {o : Option Nat} (hfo : findF st n = (f, o)) (hf : f ≠ 0) :
    Calls Tryz.prog 32 #[.pointer (some ⟨sb, 0, none⟩), .string n, i, j] w fun e w' => e = .returned (.int .i64 f) ∧ Below w.heap.size w w' := by
  have HF := hid (fsFind_ok w h n)
  rw [hfo] at HF
  unfold findC at HF
  have g1 : (f != 0) = true := by simpa using hf
  clear hfo h
  generalize Option.map (fun p => (⟨p, 0, none⟩ : Addr)) o = po at HF
  go_enter Tryz.func32, Tryz.ntmps32
  go_wp2_with (go_at_call 40; refine HF.out.mono ?_; rintro e w1 ⟨rfl, hb1⟩; have HB1 := hid hb1; clear hb1)
  go_ret
  exact ⟨rfl, HB1.out⟩
end Go.Proofs.YtgehalfnpbjjcaaGreat
