/- simfs: Used. -/
import Derived.Test.YtgehalfnpbjjcaaGreatSimK
import Derived.Lib.AppendZerosOnto
namespace Go.Proofs.YtgehalfnpbjjcaaGreat
open Go Go.RowKit Go.Sort
theorem sum_perm {l l' : Dir} {f : Nat → Nat} (h : l.Perm l') : (l.map fun p => f p.2).sum = (l'.map fun p => f p.2).sum := (h.map _).sum_nat
set_option maxHeartbeats 1000000 in
set_option maxRecDepth 100000 in
theorem fsUsed_ok {F D : Nat → Prop} {sb : Nat} {st : FSt} (w : World) (h : FSr w F D sb st) (hl : st.seen.length ≤ 1000000) :
    Calls Tryz.prog 44 #[.pointer (some ⟨sb, 0, none⟩)] w fun e w' => e = .returned (.int .i64 (usedF st : Nat)) ∧ Below w.heap.size w w' := by
  obtain ⟨m1, m2, ca, cc, ho⟩ := h.lies
  have c1 : w.cell? ⟨sb, 1, none⟩ = some (.map (some m1)) := cell_of_heap ho.head 1
  have HM := hid ho.seen
  have HH := hid h
  have HML := hid (show m1 < w.heap.size from ho.seen.lt)
  have hul := usedF_le h.ok
  clear ho h
  go_enter Tryz.func44, Tryz.ntmps44
  go_wp2_with (at_range; refine wpl_rangeG rfl rfl Tryz.underlying54 HM.out rfl ?_; intro w0 hit hb0 hs0; have HIT := hid hit; have HB0 := hid hb0; clear hit hb0 hs0)
  go_frame
  go_loopg [2] st.seen.length (fun kx s2 wr => ∃ (left : Dir) (acc : Nat), s2 = .int .i64 acc ∧ left.length ≤ kx ∧ Hid (acc + (left.map fun p => lenF st.files p.2).sum = usedF st) ∧ Hid (IterG Value.string ekP wr m1 w.heap.size st.seen left) ∧ Hid (Below w.heap.size w wr))
  case atStart => exact ⟨st.seen, 0, rfl, Nat.le_refl _, hid (by simp [usedF]), HIT, HB0⟩
  case round =>
    obtain ⟨left, acc, rfl, hk, HS, HI, HB⟩ := hrel
    go_wp2_with (at_next; refine wpl_nextG rfl rfl HI.out rfl ?_ ?_)
    · intro hnil
      subst hnil
      have hs := HS.out
      simp at hs
      have HS2 := hid hs
      clear hs
      go_wp2
      go_ret
      exact ⟨by rw [HS2.out]; rfl, HB.out⟩
    · intro k p left' w1 hperm hit1 hf1 hs1 hen
      have hmem : (k, p) ∈ st.seen := by
        obtain ⟨_, _, _, _, _, _, _, _, _, _, _, _, _, _, _, hm⟩ := HI.out
        exact hm _ (hperm.mem_iff.2 (by simp))
      obtain ⟨x, hx⟩ := Option.isSome_iff_exists.1 (HH.out.ok.seenI _ hmem).1
      simp only at hx
      have hbw : Below w.heap.size w w1 := Below.fr HB.out hf1 (fun i hi e => by omega)
      obtain ⟨m1', m2', ca', cc', ho⟩ := (HH.out.below hbw).lies
      obtain ⟨_, v, hv, hbs⟩ := ho.files p x hx
      obtain ⟨a, c, rfl, _⟩ := id hbs
      have cx : w1.cell? ⟨p, 0, none⟩ = some (.slice a x.b.length c) := cell_of_heap hv 0
      have hen1 := hen w1 (Fr.refl _ _)
      simp only [ekP_def] at hen1
      have hlen := hperm.length_eq
      have hsum : acc + x.b.length + (left'.map fun p => lenF st.files p.2).sum = usedF st := by
        rw [← HS.out, sum_perm hperm]
        simp only [List.map_cons, List.sum_cons]
        have : lenF st.files p = x.b.length := by unfold lenF; rw [hx]
        omega
      have HSUM := hid hsum
      have HIT1 := hid hit1
      have HBW := hid hbw
      have hle : acc + x.b.length ≤ 99000000000 := by omega
      clear hmem hx hbw ho hv hbs hen hsum hit1 hf1 hs1 hperm
      simp only [List.length_cons] at hlen
      go_wp2
      go_roundg left'.length
      case measure => omega
      case rel => exact ⟨left', acc + x.b.length, by go_num, Nat.le_refl _, HSUM, HIT1, HBW⟩
end Go.Proofs.YtgehalfnpbjjcaaGreat
/- slices.Grow of nothing, slices.Concat of two, at bytes. -/
namespace Go.Proofs.YtgehalfnpbjjcaaGreat
open Go Go.RowKit Go.Sort
/-- append, whose run is known. -/
theorem wpl_run {P : Program} {w w' : World} {ops : Array Oper} {rest : List Oper} {o : Oper} {a : Act} {Q : Exit → Act → World → Prop} (hgd : o.guard = none) {s y : Operand} {t t2 : TypeId}
    (ho : o.op = .call { callee := .builtin .append, args := #[s, y], argTypes := #[t, t2] }) {u x v : Value} (hs : a.eval s = u) (hy : a.eval y = x)
    (hr : (Builtin.append_ #[t, t2] o.type #[u, x]).run P w = .ok v w') (h : wpList P ops Q rest (a.put o.dst v) w') : wpList P ops Q (o :: rest) a w := by
  refine wpList_plain hgd fun K hK => ?_
  unfold Oper.wp execOp
  simp only [ho, resolve, invoke, builtin, Sem.run_bind, Sem.run_pure, Result.andThen_ok, List.map_toArray, List.map_cons, List.map_nil, hs, hy, hr]
  exact hK _ _ h
set_option maxHeartbeats 1000000 in
set_option maxRecDepth 100000 in
theorem growB_nil (n : Nat) (hn : n ≤ 1000000000) (w : World) : Calls Tryz.prog 73 #[.slice none 0 0, .int .i64 (n : Int)] w fun e w' => ∃ a c, e = .returned (.slice a 0 c) ∧ Own w' w.heap.size 5 1 (.slice a 0 c) 0 [] ∧ Below w.heap.size w w' := by
  by_cases h0 : n = 0
  · subst h0
    go_enter Tryz.func73, Tryz.ntmps73
    go_wp2
    go_ret
    exact ⟨none, 0, rfl, Own.nil _ _ _ _, Below.refl _ _⟩
  · have hpos : (0 : Int) < (n : Int) := by omega
    have hng : ¬ ((n : Int) < 0) := by omega
    obtain ⟨i0, hi, hz0, hz1, hz2⟩ := info_parts (show (Tryz.prog.info? 5).map (fun i => (i.zero, i.size, i.bytes)) = some (some (.int .u8 0), 1, 1) by kernel_rfl)
    have hrz : ∀ ty, (Builtin.append_ #[33, 3] ty #[.slice none 0 0, .int .i64 (n : Int)]).run Tryz.prog w = .ok (.slice (some ⟨w.heap.size, 0, none⟩) n (grownCap w n 0 5)) (w.drew.alloc (.cells (#[] ++ Builtin.zeroCells (Value.int .u8 0).cells n ++ Builtin.zeroCells (Value.int .u8 0).cells (grownCap w n 0 5 - n)) 5)) := fun ty => by
      have := Lib.run_append_grow_zeros (P := Tryz.prog) w 33 3 ty 5 i0 (.int .u8 0) .i64 .i64 Tryz.underlying33 Tryz.underlying3 hi hz0 none 0 0 [] (by rw [hz1]; exact run_firstCells_none w.drew 1 0 0 0) n (by omega) (by rw [hz1]; omega) (by omega) (by omega) (by rw [hz2]; omega) (by rw [hz2]; simp only [Nat.zero_add]; exact growslice_fits (by omega) (by omega))
      simpa only [Nat.zero_add] using this
    have hge := grownCap_ge w n 0 5
    have hcm := grownCap_le_maxLen w n 0 5 (by unfold maxLen; omega)
    have hsz : (#[] ++ Builtin.zeroCells (Value.int .u8 0).cells n ++ Builtin.zeroCells (Value.int .u8 0).cells (grownCap w n 0 5 - n)).size = grownCap w n 0 5 * 1 := by
      have hzc : (Value.int .u8 0).cells.size = 1 := rfl
      rw [Array.size_append, Array.size_append, size_zeroCells, size_zeroCells, hzc]
      simp only [List.size_toArray, List.length_nil, Nat.zero_add]
      rw [← Nat.add_mul]; congr 1; omega
    unfold maxLen at hcm
    generalize #[] ++ Builtin.zeroCells (Value.int .u8 0).cells n ++ Builtin.zeroCells (Value.int .u8 0).cells (grownCap w n 0 5 - n) = C at hrz hsz
    generalize grownCap w n 0 5 = cap at *
    have HSZ := hid hsz
    have H0 := hid h0
    clear hsz h0 hi hz0 hz1 hz2
    go_enter Tryz.func73, Tryz.ntmps73
    have HRZ := hid hrz
    clear hrz
    go_wp2_with (at_builtin; refine wpl_run rfl rfl rfl rfl (HRZ.out _) ?_)
    go_ret
    refine ⟨_, _, rfl, ⟨by simp, .inr ⟨w.heap.size, cap, C, rfl, Nat.le_refl _, heap_alloc_new w.drew _, ⟨Nat.zero_le _, by omega, by unfold maxLen; omega⟩, HSZ.out, by simp⟩⟩, (Below.refl _ _).drew.alloc (Nat.le_refl _) _⟩
def preB (l1 l2 : List UInt8) : Nat → List UInt8
  | 0 => []
  | 1 => l1
  | _ => l1 ++ l2
set_option maxHeartbeats 4000000 in
set_option maxRecDepth 100000 in
theorem concatB_ok {S : Nat → Prop} (w : World) (bb : Nat) (v1 v2 : Value) (l1 l2 : List UInt8) (hb : w.heap[bb]? = some (.cells #[v1, v2] 33 (0, 0))) (h1 : Bs S w v1 l1) (h2 : Bs S w v2 l2) (hlen : l1.length + l2.length ≤ 1000000) :
    Calls Tryz.prog 51 #[.slice (some ⟨bb, 0, none⟩) 2 2] w (fun e w' => ∃ a c, e = .returned (.slice a (l1 ++ l2).length c) ∧ OwnB w' w.heap.size (.slice a (l1 ++ l2).length c) (l1 ++ l2) ∧ Below w.heap.size w w') := by
  have hbl := lt_of_heap hb
  have k0 : w.cell? ⟨bb, 0, none⟩ = some v1 := cell_of_heap hb 0
  have k1 : w.cell? ⟨bb, 1, none⟩ = some v2 := cell_of_heap hb 1
  have H1 := hid h1
  have H2 := hid h2
  obtain ⟨a1, c1, rfl, _⟩ := id h1
  obtain ⟨a2, c2, rfl, _⟩ := id h2
  have hgr := growB_nil (l1.length + l2.length) (by omega)
  have HGR := hid hgr
  have HB := hid hb
  clear h1 h2 hgr hb
  go_enter Tryz.func51, Tryz.ntmps51
  go_wp2
  go_loopg [11, 3] 2 (fun kx s11 s3 wr => ∃ i : Nat, s11 = .int .i64 i ∧ i ≤ 2 ∧ 2 - i ≤ kx ∧ s3 = .int .i64 ((preB l1 l2 i).length : Nat) ∧ w = wr)
  case atStart => exact ⟨0, rfl, by omega, Nat.le_refl _, rfl, rfl⟩
  case round =>
    obtain ⟨i, rfl, hi, hkx, rfl, rfl⟩ := hrel
    match i, hi with
    | 0, _ =>
      simp only [preB, List.length_nil]
      go_wp2
      go_roundg 1
      case measure => omega
      case rel => exact ⟨1, by go_num, by omega, by omega, by simp [preB], rfl⟩
    | 1, _ =>
      simp only [preB]
      go_wp2
      go_roundg 0
      case measure => omega
      case rel => exact ⟨2, by go_num, by omega, by omega, by simp [preB], rfl⟩
    | 2, _ =>
      simp only [preB, List.length_append]
      go_wp2_with (go_at_call 73; refine (HGR.out _).mono ?_; rintro e w1 ⟨a, c, rfl, ho1, hb1⟩; have HO := hid ho1; have HB1 := hid hb1; clear ho1 hb1)
      go_loopg [27, 6] 2 (fun kx s27 s6 wr => ∃ (i : Nat) (a : Option Addr) (c : Nat), s27 = .int .i64 i ∧ i ≤ 2 ∧ 2 - i ≤ kx ∧ s6 = .slice a (preB l1 l2 i).length c ∧ Hid (OwnB wr w.heap.size (.slice a (preB l1 l2 i).length c) (preB l1 l2 i)) ∧ Hid (Below w.heap.size w wr))
      case atStart => exact ⟨0, a, c, rfl, by omega, Nat.le_refl _, rfl, HO, HB1⟩
      case round =>
        clear HO HB1
        obtain ⟨i, a3, c3, rfl, hi2, hkx2, rfl, HO, HB1⟩ := hrel
        have hcc := HB1.out.cell (p := ⟨bb, 0, none⟩) hbl
        have hcd := HB1.out.cell (p := ⟨bb, 1, none⟩) hbl
        rw [k0] at hcc
        rw [k1] at hcd
        have hbs := HB1.out.size
        have R1 := hid (H1.out.fr (Fr.of_below HB1.out : Fr (fun _ => False) w wr) (fun _ _ h => h.elim))
        have R2 := hid (H2.out.fr (Fr.of_below HB1.out : Fr (fun _ => False) w wr) (fun _ _ h => h.elim))
        obtain ⟨L, hL⟩ : ∃ L, L = preB l1 l2 i := ⟨_, rfl⟩
        rw [← hL] at HO ⊢
        have HL := hid hL
        have hLl : L.length ≤ 1000000 := by
          rw [hL]
          match i, hi2 with
          | 0, _ => simp [preB]
          | 1, _ => simp [preB]; omega
          | 2, _ => simp [preB]; omega
        clear hL
        match i, hi2 with
        | 0, _ =>
          go_wp2_with (at_builtin; refine wpl_append (base := w.heap.size) rfl rfl etB rfl HO.out rfl R1.out.row (bcells_one l1) (by omega) hbs ?_; intro v5 w5 ho5 hf5 hm5; obtain ⟨a5, c5, rfl, _⟩ := ho5.len; have HO5 := hid (And.intro ho5 hf5); clear ho5 hf5 hm5)
          have hnew : OwnB w5 w.heap.size (.slice a5 (preB l1 l2 1).length c5) (preB l1 l2 1) := by
            have h6 := HO5.out.1
            rw [bcells_append] at h6
            have h7 : preB l1 l2 1 = L ++ l1 := by rw [HL.out]; simp [preB]
            rw [h7]
            unfold OwnB
            rw [List.length_append]; exact h6
          have hlenq : L.length + l1.length = (preB l1 l2 1).length := by rw [HL.out]; simp [preB]
          have hbel : Below w.heap.size w w5 := Below.fr HB1.out HO5.out.2 (fun q hq hm => by
            obtain ⟨off, n', c', hv, hc⟩ := hm
            have := (HO.out.mine_ge ⟨off, n', c', hv, hc⟩).1
            omega)
          have HN := hid (And.intro hnew hbel)
          rw [hlenq]
          clear hnew hbel hlenq HO5
          go_wp2
          go_roundg 1
          case measure => omega
          case rel => exact ⟨1, a5, c5, by go_num, by omega, by omega, rfl, hid HN.out.1, hid HN.out.2⟩
        | 1, _ =>
          go_wp2_with (at_builtin; refine wpl_append (base := w.heap.size) rfl rfl etB rfl HO.out rfl R2.out.row (bcells_one l2) (by omega) hbs ?_; intro v5 w5 ho5 hf5 hm5; obtain ⟨a5, c5, rfl, _⟩ := ho5.len; have HO5 := hid (And.intro ho5 hf5); clear ho5 hf5 hm5)
          have hnew : OwnB w5 w.heap.size (.slice a5 (preB l1 l2 2).length c5) (preB l1 l2 2) := by
            have h6 := HO5.out.1
            rw [bcells_append] at h6
            have h7 : preB l1 l2 2 = L ++ l2 := by rw [HL.out]; simp [preB]
            rw [h7]
            unfold OwnB
            rw [List.length_append]; exact h6
          have hlenq : L.length + l2.length = (preB l1 l2 2).length := by rw [HL.out]; simp [preB]
          have hbel : Below w.heap.size w w5 := Below.fr HB1.out HO5.out.2 (fun q hq hm => by
            obtain ⟨off, n', c', hv, hc⟩ := hm
            have := (HO.out.mine_ge ⟨off, n', c', hv, hc⟩).1
            omega)
          have HN := hid (And.intro hnew hbel)
          rw [hlenq]
          clear hnew hbel hlenq HO5
          go_wp2
          go_roundg 0
          case measure => omega
          case rel => exact ⟨2, a5, c5, by go_num, by omega, by omega, rfl, hid HN.out.1, hid HN.out.2⟩
        | 2, _ =>
          go_wp2
          go_ret
          have h8 : L = l1 ++ l2 := by rw [HL.out]; simp [preB]
          subst h8
          exact ⟨_, _, rfl, HO.out, HB1.out⟩
end Go.Proofs.YtgehalfnpbjjcaaGreat
