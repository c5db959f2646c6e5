/- hayloftref06: Used. -/
import Derived.Test.YtgehalfnpbjjcaaGreatRefE
import Derived.Test.YtgehalfnpbjjcaaGreatUpKit
namespace Go.Proofs.YtgehalfnpbjjcaaGreat
open Go Go.RowKit Go.Sort
def rsumTo (st : RSt) (i : Nat) : Nat := ((st.seen.take i).map fun p => rlen st p.2).sum
theorem rsum_next {st : RSt} {i : Nat} {p : ByteArray × Int} (h : st.seen[i]? = some p) : rsumTo st (i + 1) = rsumTo st i + rlen st p.2 := by
  unfold rsumTo
  rw [List.take_add_one, h]
  simp
theorem rsum_all (st : RSt) : rsumTo st st.seen.length = rused st := by
  unfold rsumTo rused
  rw [List.take_length]
theorem rlen_le {st : RSt} (h : st.Ok) (i : Int) : rlen st i ≤ 99000 := by
  unfold rlen
  split
  · rename_i x hx; exact (h.fil x (List.mem_of_getElem? hx)).2.2
  · omega
theorem rsum_le {st : RSt} (h : st.Ok) (i : Nat) : rsumTo st i ≤ st.seen.length * 99000 := by
  unfold rsumTo
  have h1 : ∀ l : RDir, (l.map fun p => rlen st p.2).sum ≤ l.length * 99000 := fun l => by
    induction l with
    | nil => simp
    | cons a l ih =>
      have := rlen_le h a.2
      simp only [List.map_cons, List.sum_cons, List.length_cons, Nat.succ_mul]
      omega
  refine Nat.le_trans (h1 _) (Nat.mul_le_mul_right _ ?_)
  rw [List.length_take]
  omega
theorem meas_lt {n i k : Nat} (h : n - i ≤ k) (hi : i < n) : n - (i + 1) < k := by omega
section
variable {w : World} {F D : Nat → Prop} {rb : Nat} {fs : List (Value × RFil)} {sn sf : RDir} {ch : List RChg} {vf vs va vc : Value}
/-- One file. -/
theorem RSb.file (h : RSb w F D rb fs sn sf ch vf vs va vc) {k : Nat} {p : Value × RFil} (hp : fs[k]? = some p) : ∃ g cf cur, vf = .slice (some ⟨g, 0, none⟩) fs.length cf ∧ w.heap[g]? = some (.cells cur 97 (0, 0)) ∧ fs.length ≤ cf ∧ cf ≤ maxLen ∧ w.cell? ⟨g, k * 2, none⟩ = some p.1 ∧ w.cell? ⟨g, k * 2 + 1, none⟩ = some (.int .i64 p.2.safe) ∧ g ≠ rb ∧ F g := by
  have hk := (List.getElem?_eq_some_iff.1 hp).1
  have hrow : Row (fun _ => False) w vf fs.length 2 (fs.flatMap rfilC) := h.files.row (fun _ _ _ => id)
  obtain ⟨h0, ⟨h1, _⟩ | ⟨g, cap, cur, hv, hb, hg, hn, hz, ht⟩⟩ := id h.files
  · omega
  · have hm : mine vf g := ⟨0, _, _, hv, by have := hn.1; omega⟩
    rw [hv] at hrow
    obtain ⟨b, off, e, _, _, e1, e2, hc⟩ := hrow.elem rfilC_len (by decide) hp
    injection e with e
    injection e with e3 e4 _
    subst e3 e4
    have c0 := hc 0 _ rfl
    have c1 := hc 1 _ rfl
    rw [Nat.zero_add] at c0 c1
    exact ⟨g, cap, cur, hv, hg, e1, e2, c0, c1, h.ne h.files (by decide) hm, h.mf g hm⟩
end
set_option maxHeartbeats 1000000 in
set_option maxRecDepth 100000 in
theorem r06Used_ok {F D : Nat → Prop} {rb : Nat} {st : RSt} (w : World) (h : RSr w F D rb st) (hl : st.seen.length ≤ 1000000) : Calls Tryz.prog 45 #[.pointer (some ⟨rb, 0, none⟩)] w fun e w' => e = .returned (.int .i64 (rused st : Nat)) ∧ Below w.heap.size w w' := by
  have mixed : Tryz.prog.follows .mixedOrders = true := by kernel_rfl
  have HOK := hid h.ok
  have HR := hid h
  clear h
  go_enter Tryz.func45, Tryz.ntmps45
  go_wp2
  go_loopg [4, 3] st.seen.length (fun kx s4 s3 wr => ∃ i : Nat, s4 = .int .i64 i ∧ s3 = .int .i64 (rsumTo st i : Int) ∧ i ≤ st.seen.length ∧ st.seen.length - i ≤ kx ∧ Hid (Below w.heap.size w wr))
  case atStart => exact ⟨0, rfl, rfl, Nat.zero_le _, Nat.le_refl _, hid (Below.refl _ _)⟩
  case round =>
    obtain ⟨i, rfl, rfl, hi, hk, HB⟩ := hrel
    have hr := HR.out.below HB.out
    obtain ⟨fs, vf, vs, va, vc, he, hb, hh⟩ := hr.lies
    obtain ⟨_, a0, c0, rfl, _⟩ := id hb.seen
    have k2 : wr.cell? ⟨rb, 2, none⟩ = some (.slice a0 st.seen.length c0) := cell_of_heap hh 2
    by_cases hlt : i < st.seen.length
    · have hlt' : (i : Int) < (st.seen.length : Int) := by omega
      obtain ⟨p, hp⟩ : ∃ p, st.seen[i]? = some p := ⟨_, List.getElem?_eq_getElem hlt⟩
      obtain ⟨sb, so, rfl, hsb, _, hc1, hc2, hcell⟩ := hb.seen.elem rentC_len (by decide) hp
      have hpi := HOK.out.seenI p (List.mem_of_getElem? hp)
      obtain ⟨kk, hkk⟩ : ∃ kk : Nat, p.2 = (kk : Int) := ⟨p.2.toNat, by omega⟩
      have hkf : kk < fs.length := by
        have h1 : fs.length = st.files.length := by rw [← he]; simp
        have := hpi.2.1
        omega
      obtain ⟨q, hq⟩ : ∃ q, fs[kk]? = some q := ⟨_, List.getElem?_eq_getElem hkf⟩
      obtain ⟨g, cf, cur, rfl, hg, e1, e2, q0, q1, _, _⟩ := hb.file hq
      obtain ⟨v, x⟩ := q
      have hbx : Bs (fun k => D k → F k) wr v x.b := hb.each _ (List.mem_of_getElem? hq)
      obtain ⟨fa, fc, rfl, hfit, _⟩ := hbx
      have hx : st.files[kk]? = some x := by rw [← he, List.getElem?_map, hq]; rfl
      have hrl : rlen st p.2 = x.b.length := by
        unfold rlen
        rw [hkk, Int.toNat_natCast, hx]
      have hsum := rsum_next hp
      rw [hrl] at hsum
      have hsl := rsum_le HOK.out (i + 1)
      have j1 : wr.cell? ⟨sb, so + i * 2 + 1, none⟩ = some (.int .i64 p.2) := hcell 1 _ rfl
      rw [hkk] at j1
      simp only at q0 hfit
      have hgl := lt_of_heap hg
      have FA1 := hid (show ∀ W, (Instr.fieldAt 42 (.pointer (some ⟨rb, 0, none⟩)) 1).run Tryz.prog W = .ok (.pointer (some ⟨rb, 1, none⟩)) W from fun W => by go_simp)
      have FA2 := hid (show ∀ W, (Instr.fieldAt 42 (.pointer (some ⟨rb, 0, none⟩)) 2).run Tryz.prog W = .ok (.pointer (some ⟨rb, 2, none⟩)) W from fun W => by go_simp)
      have FL1 := hid (show ∀ W, Fr (fun _ => False) wr W → (Instr.loadAt 38 (.pointer (some ⟨rb, 1, none⟩))).run Tryz.prog W = .ok (.slice (some ⟨g, 0, none⟩) fs.length cf) W from fun W hW => by have hc : W.cell? ⟨rb, 1, none⟩ = some (.slice (some ⟨g, 0, none⟩) fs.length cf) := cell_of_heap (hW.heap hh id) 1; clear hh hg; go_simp)
      have FL2 := hid (show ∀ W, Fr (fun _ => False) wr W → (Instr.loadAt 39 (.pointer (some ⟨rb, 2, none⟩))).run Tryz.prog W = .ok (.slice (some ⟨sb, so, none⟩) st.seen.length c0) W from fun W hW => by have hc : W.cell? ⟨rb, 2, none⟩ = some (.slice (some ⟨sb, so, none⟩) st.seen.length c0) := cell_of_heap (hW.heap hh id) 2; clear hh hg; go_simp)
      have PI1 := hid (show ∀ W, (Instr.indexAt 39 (.slice (some ⟨sb, so, none⟩) st.seen.length c0) (.int .i64 (i : Int))).run Tryz.prog W = .ok (.pointer (some ⟨sb, so + i * 2, none⟩)) W from fun W => by go_simp)
      have PF1 := hid (show ∀ W, (Instr.fieldAt 105 (.pointer (some ⟨sb, so + i * 2, none⟩)) 1).run Tryz.prog W = .ok (.pointer (some ⟨sb, so + i * 2 + 1, none⟩)) W from fun W => by go_simp)
      have PL1 := hid (show ∀ W, Fr (fun _ => False) wr W → (Instr.loadAt 3 (.pointer (some ⟨sb, so + i * 2 + 1, none⟩))).run Tryz.prog W = .ok (.int .i64 (kk : Int)) W from fun W hW => by have hc : W.cell? ⟨sb, so + i * 2 + 1, none⟩ = some (.int .i64 (kk : Int)) := (hW.cell (p := ⟨sb, so + i * 2 + 1, none⟩) hsb id).trans j1; go_simp)
      have PI2 := hid (show ∀ W, (Instr.indexAt 38 (.slice (some ⟨g, 0, none⟩) fs.length cf) (.int .i64 (kk : Int))).run Tryz.prog W = .ok (.pointer (some ⟨g, kk * 2, none⟩)) W from fun W => by go_simp)
      have PF2 := hid (show ∀ W, (Instr.fieldAt 97 (.pointer (some ⟨g, kk * 2, none⟩)) 0).run Tryz.prog W = .ok (.pointer (some ⟨g, kk * 2, none⟩)) W from fun W => by go_simp)
      have PL2 := hid (show ∀ W, Fr (fun _ => False) wr W → (Instr.loadAt 33 (.pointer (some ⟨g, kk * 2, none⟩))).run Tryz.prog W = .ok (.slice fa x.b.length fc) W from fun W hW => by have hc : W.cell? ⟨g, kk * 2, none⟩ = some (.slice fa x.b.length fc) := (hW.cell (p := ⟨g, kk * 2, none⟩) hgl id).trans q0; go_simp)
      have PLN := hid (show ∀ ty cs W, (builtin .len #[33] ty cs #[.slice fa x.b.length fc]).run Tryz.prog W = .ok (.value (.int .i64 (x.b.length : Int))) W from fun ty cs W => by go_simp)
      have PAD := hid (show ∀ W, (binOp .add 3 (.int .i64 (rsumTo st i : Int)) (.int .i64 (x.b.length : Int))).run Tryz.prog W = .ok (.int .i64 (rsumTo st (i + 1) : Int)) W from fun W => by
        rw [hsum]
        have h9 : IntKind.i64.wrap ((rsumTo st i : Int) + (x.b.length : Int)) = ((rsumTo st i + x.b.length : Nat) : Int) := by
          rw [IntWalk.i64_in _ (by omega)]
          omega
        go_simp)
      have HBR := hid HB.out
      clear hr he hb hh hp hcell hpi hkk hq hg e1 e2 q0 q1 hfit hx hrl hsum j1 hgl hsl
      go_wp2_with fail
      have hS0 : Fr (fun _ => False) wr wr.drew := (Fr.refl _ wr).drew
      refine hg_start (fun W => Fr (fun _ => False) wr W) 18 mixed ?_
      refine hgt 0 14 kMove (.tmp 3) (.int .i64 (rsumTo st i : Int)) (by kernel_rfl) (by kernel_rfl) (by kernel_rfl) (by kernel_rfl) (by exact fun _ _ _ h => h) (by kernel_rfl) (by kernel_rfl) hS0 (fun o w' ho hs => ex_move ho (by kernel_rfl)) ?_
      refine hgt 1 15 kMove (.tmp 0) (.pointer (some ⟨rb, 0, none⟩)) (by kernel_rfl) (by kernel_rfl) (by kernel_rfl) (by kernel_rfl) (by exact fun _ _ _ h => h) (by kernel_rfl) (by kernel_rfl) hS0 (fun o w' ho hs => ex_move ho (by kernel_rfl)) ?_
      refine hgt 2 16 kNil (.tmp 15) (.pointer (some ⟨rb, 0, none⟩)) (by kernel_rfl) (by kernel_rfl) (by kernel_rfl) (by kernel_rfl) (by exact fun _ _ _ h => h) (by kernel_rfl) (by kernel_rfl) hS0 (fun o w' ho hs => ex_nil ho (by kernel_rfl)) ?_
      refine hgt 3 17 kFA (42, .tmp 16, 1) (.pointer (some ⟨rb, 1, none⟩)) (by kernel_rfl) (by kernel_rfl) (by kernel_rfl) (by kernel_rfl) (by exact fun _ _ _ h => h) (by kernel_rfl) (by kernel_rfl) hS0 (fun o w' ho hs => ex_fa ho (by kernel_rfl) (FA1.out _)) ?_
      refine hgt 4 18 kLoad (38, .tmp 17) (.slice (some ⟨g, 0, none⟩) fs.length cf) (by kernel_rfl) (by kernel_rfl) (by kernel_rfl) (by kernel_rfl) (by exact fun _ _ _ h => h) (by kernel_rfl) (by kernel_rfl) hS0 (fun o w' ho hs => ex_load ho (by kernel_rfl) (FL1.out _ hs)) ?_
      refine hgt 5 19 kMove (.tmp 0) (.pointer (some ⟨rb, 0, none⟩)) (by kernel_rfl) (by kernel_rfl) (by kernel_rfl) (by kernel_rfl) (by exact fun _ _ _ h => h) (by kernel_rfl) (by kernel_rfl) hS0 (fun o w' ho hs => ex_move ho (by kernel_rfl)) ?_
      refine hgt 6 20 kNil (.tmp 19) (.pointer (some ⟨rb, 0, none⟩)) (by kernel_rfl) (by kernel_rfl) (by kernel_rfl) (by kernel_rfl) (by exact fun _ _ _ h => h) (by kernel_rfl) (by kernel_rfl) hS0 (fun o w' ho hs => ex_nil ho (by kernel_rfl)) ?_
      refine hgt 7 21 kFA (42, .tmp 20, 2) (.pointer (some ⟨rb, 2, none⟩)) (by kernel_rfl) (by kernel_rfl) (by kernel_rfl) (by kernel_rfl) (by exact fun _ _ _ h => h) (by kernel_rfl) (by kernel_rfl) hS0 (fun o w' ho hs => ex_fa ho (by kernel_rfl) (FA2.out _)) ?_
      refine hgt 8 22 kLoad (39, .tmp 21) (.slice (some ⟨sb, so, none⟩) st.seen.length c0) (by kernel_rfl) (by kernel_rfl) (by kernel_rfl) (by kernel_rfl) (by exact fun _ _ _ h => h) (by kernel_rfl) (by kernel_rfl) hS0 (fun o w' ho hs => ex_load ho (by kernel_rfl) (FL2.out _ hs)) ?_
      refine hgt 9 23 kMove (.tmp 4) (.int .i64 (i : Int)) (by kernel_rfl) (by kernel_rfl) (by kernel_rfl) (by kernel_rfl) (by exact fun _ _ _ h => h) (by kernel_rfl) (by kernel_rfl) hS0 (fun o w' ho hs => ex_move ho (by kernel_rfl)) ?_
      refine hgt 10 24 kIA (39, .tmp 22, .tmp 23) (.pointer (some ⟨sb, so + i * 2, none⟩)) (by kernel_rfl) (by kernel_rfl) (by kernel_rfl) (by kernel_rfl) (by exact fun _ _ _ h => h) (by kernel_rfl) (by kernel_rfl) hS0 (fun o w' ho hs => ex_ia ho (by kernel_rfl) (by kernel_rfl) (PI1.out _)) ?_
      refine hgt 11 25 kFA (105, .tmp 24, 1) (.pointer (some ⟨sb, so + i * 2 + 1, none⟩)) (by kernel_rfl) (by kernel_rfl) (by kernel_rfl) (by kernel_rfl) (by exact fun _ _ _ h => h) (by kernel_rfl) (by kernel_rfl) hS0 (fun o w' ho hs => ex_fa ho (by kernel_rfl) (PF1.out _)) ?_
      refine hgt 12 26 kLoad (3, .tmp 25) (.int .i64 (kk : Int)) (by kernel_rfl) (by kernel_rfl) (by kernel_rfl) (by kernel_rfl) (by exact fun _ _ _ h => h) (by kernel_rfl) (by kernel_rfl) hS0 (fun o w' ho hs => ex_load ho (by kernel_rfl) (PL1.out _ hs)) ?_
      refine hgt 13 27 kIA (38, .tmp 18, .tmp 26) (.pointer (some ⟨g, kk * 2, none⟩)) (by kernel_rfl) (by kernel_rfl) (by kernel_rfl) (by kernel_rfl) (by exact fun _ _ _ h => h) (by kernel_rfl) (by kernel_rfl) hS0 (fun o w' ho hs => ex_ia ho (by kernel_rfl) (by kernel_rfl) (PI2.out _)) ?_
      refine hgt 14 28 kFA (97, .tmp 27, 0) (.pointer (some ⟨g, kk * 2, none⟩)) (by kernel_rfl) (by kernel_rfl) (by kernel_rfl) (by kernel_rfl) (by exact fun _ _ _ h => h) (by kernel_rfl) (by kernel_rfl) hS0 (fun o w' ho hs => ex_fa ho (by kernel_rfl) (PF2.out _)) ?_
      refine hgt 15 29 kLoad (33, .tmp 28) (.slice fa x.b.length fc) (by kernel_rfl) (by kernel_rfl) (by kernel_rfl) (by kernel_rfl) (by exact fun _ _ _ h => h) (by kernel_rfl) (by kernel_rfl) hS0 (fun o w' ho hs => ex_load ho (by kernel_rfl) (PL2.out _ hs)) ?_
      refine hgt 16 30 kBi (.len, [.tmp 29], [33]) (.int .i64 (x.b.length : Int)) (by kernel_rfl) (by kernel_rfl) (by kernel_rfl) (by kernel_rfl) (by exact fun _ _ _ h => h) (by kernel_rfl) (by kernel_rfl) hS0 (fun o w' ho hs => ex_bi (vs := [.slice fa x.b.length fc]) ho (by kernel_rfl) (fun ty cs => PLN.out ty cs _)) ?_
      refine hgt 17 31 kBin (.add, 3, .tmp 14, .tmp 30) (.int .i64 (rsumTo st (i + 1) : Int)) (by kernel_rfl) (by kernel_rfl) (by kernel_rfl) (by kernel_rfl) (by exact fun _ _ _ h => h) (by kernel_rfl) (by kernel_rfl) hS0 (fun o w' ho hs => ex_bin (vx := .int .i64 (rsumTo st i : Int)) (vy := .int .i64 (x.b.length : Int)) ho (by kernel_rfl) (by kernel_rfl) rfl (PAD.out _)) ?_
      refine hg1 18 (by kernel_rfl) ?_
      refine hg_val 3 kAssign (.tmp 31) (.int .i64 (rsumTo st (i + 1) : Int)) (by kernel_rfl) (fun o ho => ex_assign ho (by kernel_rfl)) (.inl rfl) ?_
      refine hg_done (by kernel_rfl) ?_
      go_wp2_with fail
      go_roundg (st.seen.length - (i + 1))
      case measure => exact meas_lt hk hlt
      case rel => exact ⟨i + 1, by go_num, rfl, hlt, Nat.le_refl _, hid (HBR.out.drew)⟩
    · obtain rfl : i = st.seen.length := by omega
      clear hr he hb hh
      go_wp2
      go_ret
      exact ⟨by rw [rsum_all]; rfl, HB.out⟩
end Go.Proofs.YtgehalfnpbjjcaaGreat
