/- hayloftlaw06: Alike, of file systems that say the same. -/
import Derived.Test.YtgehalfnpbjjcaaGreatStepY
import Derived.Test.YtgehalfnpbjjcaaGreatRefL
import Derived.Test.YtgehalfnpbjjcaaGreatSimP
namespace Go.Proofs.YtgehalfnpbjjcaaGreat
open Go Go.RowKit Go.Sort
def kUn : Op → Option (UnOp × TypeId × Operand)
  | .unOp u t x => some (u, t, x)
  | _ => none
theorem kUn_out {op : Op} {x : UnOp × TypeId × Operand} (h : kUn op = some x) : op = .unOp x.1 x.2.1 x.2.2 := by
  cases op <;> simp [kUn] at h
  rw [← h]
section
variable {P : Program} {w : World} {a : Act}
theorem ex_un {o : Oper} {u : UnOp} {t : TypeId} {x : Operand} {vx v : Value} (h : kUn o.op = some (u, t, x)) (hx : a.eval x = vx) (hv : (Op.unary u vx).run P w = .ok v w) : (execOp a.eval o).run P w = .ok (.value v) w := by
  unfold execOp; rw [kUn_out h]; subst hx; simp [hv]
theorem ex_pick {o : Oper} {c x y : Operand} {b : Bool} {v : Value} (h : kPick o.op = some (c, x, y)) (hc : a.eval c = .bool b) (hv : (if b = true then a.eval x else a.eval y) = v) : (execOp a.eval o).run P w = .ok (.value v) w := by
  unfold execOp; rw [kPick_out h]
  cases b with
  | true => rw [if_pos rfl] at hv; subst hv; simp [hc, asBool]
  | false => rw [if_neg (by simp)] at hv; subst hv; simp [hc, asBool]
end
/-- A name that is listed is read. -/
theorem Sim.read0 {ps : List Nat} {st : FSt} {rs : RSt} (_h : Sim ps st rs) (hok : st.Ok) {n : ByteArray} (hn : n ∈ listF st) : (readF st n).2 = 0 := by
  unfold listF at hn
  cases hd : st.down with
  | true => rw [hd] at hn; simp at hn
  | false =>
    rw [hd] at hn
    simp only [Bool.false_eq_true, if_false] at hn
    have h1 : n ∈ st.seen.map Prod.fst := (perm_sortN _).mem_iff.1 hn
    obtain ⟨⟨n', p⟩, h2, rfl⟩ := List.mem_map.1 h1
    have h3 := (hok.seenI _ h2).2
    unfold readF findF
    rw [hd, h3, dget_mem hok.seenN h2]
    rfl
set_option maxHeartbeats 2000000 in
set_option maxRecDepth 100000 in
theorem alike_ok {base : Nat} {w : World} {Fs Ds Gr Er : Nat → Prop} {sb rb N : Nat} {st : FSt} {rs : RSt} {ps : List Nat} (hB : Both base w Fs Ds sb st Gr Er rb rs N) (hN : N ≤ 90000) (hs : Sim ps st rs) :
    Calls Tryz.prog 12 #[.pointer (some ⟨sb, 0, none⟩), .pointer (some ⟨rb, 0, none⟩)] w fun e w' => e = .returned (.bool true) ∧ Below w.heap.size w w' := by
  have mixed : Tryz.prog.follows .mixedOrders = true := by kernel_rfl
  have HLI := hid (fsList_ok w hB.fs (by have := hB.few.a; omega))
  obtain ⟨l, hl⟩ : ∃ l, listF st = l := ⟨_, rfl⟩
  have HRL := hid (show rlist rs = l from by rw [← hs.list, hl])
  have HUS := hid hs.used
  have HRD := hid (show ∀ n ∈ l, rread rs n = readF st n ∧ (readF st n).2 = 0 from fun n hn => ⟨(hs.read n).symm, hs.read0 hB.fs.ok (by rw [hl]; exact hn)⟩)
  have HB0 := hid hB
  have HDN := hid hs.down
  have HST := hid hs.steps
  rw [hl] at HLI
  clear hB hs hl
  go_enter Tryz.func12, Tryz.ntmps12
  go_wp2_with fail
  refine HLI.out.mono ?_
  rintro e w1 ⟨a1, c1, rfl, ho1, hb1⟩
  have HB := hid (HB0.out.below hb1)
  have HL := hid (show Row (fun _ => False) w1 (.slice a1 l.length c1) l.length 1 (l.map Value.string) from ho1.row (fun _ _ _ h => h))
  have HW1 := hid hb1
  obtain ⟨vf, vs, va, vc, hh⟩ := HB.out.rf.head
  have HH := hid hh
  clear ho1 hb1 HLI hh
  have FA6 := hid (show ∀ W, (Instr.fieldAt 42 (.pointer (some ⟨rb, 0, none⟩)) 6).run Tryz.prog W = .ok (.pointer (some ⟨rb, 6, none⟩)) W from fun W => by go_simp)
  have FA7 := hid (show ∀ W, (Instr.fieldAt 42 (.pointer (some ⟨rb, 0, none⟩)) 7).run Tryz.prog W = .ok (.pointer (some ⟨rb, 7, none⟩)) W from fun W => by go_simp)
  have FL6 := hid (show ∀ W, Below w1.heap.size w1 W → (Instr.loadAt 4 (.pointer (some ⟨rb, 6, none⟩))).run Tryz.prog W = .ok (.bool st.down) W from fun W hW => by
    have hc : W.cell? ⟨rb, 6, none⟩ = some (.bool rs.down) := cell_of_heap ((Fr.of_below hW : Fr (fun _ => False) w1 W).heap HH.out id) 6
    rw [HDN.out] at hc
    go_simp)
  have FL7 := hid (show ∀ W, Below w1.heap.size w1 W → (Instr.loadAt 2 (.pointer (some ⟨rb, 7, none⟩))).run Tryz.prog W = .ok (.int .i64 st.steps) W from fun W hW => by
    have hc : W.cell? ⟨rb, 7, none⟩ = some (.int .i64 rs.count) := cell_of_heap ((Fr.of_below hW : Fr (fun _ => False) w1 W).heap HH.out id) 7
    rw [HST.out] at hc
    go_simp)
  have PNOT := hid (show ∀ W, (Op.unary .not (.bool true)).run Tryz.prog W = .ok (.bool false) W from fun W => by go_simp)
  have PN23 := hid (show ∀ W, (binOp .neq 3 (.int .i64 (rused rs : Int)) (.int .i64 (rused rs : Int))).run Tryz.prog W = .ok (.bool false) W from fun W => by go_simp)
  have PN32 := hid (show ∀ W, (binOp .neq 4 (.bool st.down) (.bool st.down)).run Tryz.prog W = .ok (.bool false) W from fun W => by go_simp)
  have PN41 := hid (show ∀ W, (binOp .neq 2 (.int .i64 st.steps) (.int .i64 st.steps)).run Tryz.prog W = .ok (.bool false) W from fun W => by go_simp)
  go_wp2_with fail
  have hS0 : Below w1.heap.size w1 w1.drew := (Below.refl _ w1).drew
  refine hg_start (fun W => Below w1.heap.size w1 W) 99 mixed ?_
  refine hgt 0 13 kMove (.tmp 5) (.slice a1 l.length c1) (by kernel_rfl) (by kernel_rfl) (by kernel_rfl) (by kernel_rfl) (by exact fun _ _ _ h => h) (by kernel_rfl) (by kernel_rfl) hS0 (fun o w' ho hs => ex_move ho (by kernel_rfl)) ?_
  refine hgt 1 14 kMove (.tmp 1) (.pointer (some ⟨rb, 0, none⟩)) (by kernel_rfl) (by kernel_rfl) (by kernel_rfl) (by kernel_rfl) (by exact fun _ _ _ h => h) (by kernel_rfl) (by kernel_rfl) hS0 (fun o w' ho hs => ex_move ho (by kernel_rfl)) ?_
  refine hg1 2 (by kernel_rfl) ?_
  refine hg_call 15 43 [.tmp 14] [.pointer (some ⟨rb, 0, none⟩)] (by kernel_rfl) (by kernel_rfl) (enters_of Tryz.func43 rfl rfl) (r06List_ok w1.drew (HB.out.rf.below hS0) (by have := HB.out.fewr.a; omega)) ?_
  rintro e w2 ⟨a2, c2, rfl, ho2, hb2⟩
  have hS2 := Below.below hS0 hb2
  rw [HRL.out] at ho2 ⊢
  refine ⟨_, rfl, .inr hS2, ?_⟩
  refine hg1 3 (by kernel_rfl) ?_
  refine hg_call 16 42 [.tmp 13, .tmp 15] [.slice a1 l.length c1, .slice a2 l.length c2] (by kernel_rfl) (by kernel_rfl) (enters_of Tryz.func42 rfl rfl) (r06Names_ok (S := fun _ => False) (S' := fun _ => False) a1 a2 c1 c2 l w2 (HL.out.fr (Fr.of_below hS2 : Fr (fun _ => False) w1 w2) (fun _ _ h => h)) (ho2.row (fun _ _ _ h => h))) ?_
  rintro e w3 ⟨rfl, hb3⟩
  have hS3 := Below.below hS2 hb3
  refine ⟨_, rfl, .inr hS3, ?_⟩
  refine hg1 4 (by kernel_rfl) ?_
  refine hg_val 17 kUn (.not, 4, .tmp 16) (.bool false) (by kernel_rfl) (fun o ho => ex_un (vx := .bool true) ho (by kernel_rfl) (PNOT.out _)) (.inr hS3) ?_
  refine hg1 5 (by kernel_rfl) ?_
  refine hg_val 18 kMove (.tmp 17) (.bool false) (by kernel_rfl) (fun o ho => ex_move ho (by kernel_rfl)) (.inr hS3) ?_
  refine hgt 6 19 kMove (.tmp 0) (.pointer (some ⟨sb, 0, none⟩)) (by kernel_rfl) (by kernel_rfl) (by kernel_rfl) (by kernel_rfl) (by exact fun _ _ _ h => h) (by kernel_rfl) (by kernel_rfl) hS3 (fun o w' ho hs => ex_move ho (by kernel_rfl)) ?_
  refine hgt 8 21 kMove (.tmp 1) (.pointer (some ⟨rb, 0, none⟩)) (by kernel_rfl) (by kernel_rfl) (by kernel_rfl) (by kernel_rfl) (by exact fun _ _ _ h => h) (by kernel_rfl) (by kernel_rfl) hS3 (fun o w' ho hs => ex_move ho (by kernel_rfl)) ?_
  refine hg1 7 (by kernel_rfl) ?_
  refine hg_call 20 44 [.tmp 19] [.pointer (some ⟨sb, 0, none⟩)] (by kernel_rfl) (by kernel_rfl) (enters_of Tryz.func44 rfl rfl) (fsUsed_ok w3 (HB.out.fs.below hS3) (by have := HB.out.few.a; omega)) ?_
  rintro e w4 ⟨rfl, hb4⟩
  have hS4 := Below.below hS3 hb4
  rw [HUS.out]
  refine ⟨_, rfl, .inr hS4, ?_⟩
  refine hg1 9 (by kernel_rfl) ?_
  refine hg_call 22 45 [.tmp 21] [.pointer (some ⟨rb, 0, none⟩)] (by kernel_rfl) (by kernel_rfl) (enters_of Tryz.func45 rfl rfl) (r06Used_ok w4 (HB.out.rf.below hS4) (by have := HB.out.fewr.a; omega)) ?_
  rintro e w5 ⟨rfl, hb5⟩
  have hS5 := Below.below hS4 hb5
  refine ⟨_, rfl, .inr hS5, ?_⟩
  refine hg1 10 (by kernel_rfl) ?_
  refine hg_val 23 kBin (.neq, 3, .tmp 20, .tmp 22) (.bool false) (by kernel_rfl) (fun o ho => ex_bin (vx := .int .i64 (rused rs : Int)) (vy := .int .i64 (rused rs : Int)) ho (by kernel_rfl) (by kernel_rfl) rfl (PN23.out _)) (.inr hS5) ?_
  refine hg1 11 (by kernel_rfl) ?_
  refine hg_val 24 kPick (.tmp 18, .const (.bool true), .tmp 23) (.bool false) (by kernel_rfl) (fun o ho => ex_pick (b := false) ho (by kernel_rfl) (by kernel_rfl)) (.inr hS5) ?_
  refine hg1 12 (by kernel_rfl) ?_
  refine hg_val 25 kMove (.tmp 24) (.bool false) (by kernel_rfl) (fun o ho => ex_move ho (by kernel_rfl)) (.inr hS5) ?_
  refine hgt 13 26 kMove (.tmp 0) (.pointer (some ⟨sb, 0, none⟩)) (by kernel_rfl) (by kernel_rfl) (by kernel_rfl) (by kernel_rfl) (by exact fun _ _ _ h => h) (by kernel_rfl) (by kernel_rfl) hS5 (fun o w' ho hs => ex_move ho (by kernel_rfl)) ?_
  refine hgt 15 28 kMove (.tmp 1) (.pointer (some ⟨rb, 0, none⟩)) (by kernel_rfl) (by kernel_rfl) (by kernel_rfl) (by kernel_rfl) (by exact fun _ _ _ h => h) (by kernel_rfl) (by kernel_rfl) hS5 (fun o w' ho hs => ex_move ho (by kernel_rfl)) ?_
  refine hgt 16 29 kNil (.tmp 28) (.pointer (some ⟨rb, 0, none⟩)) (by kernel_rfl) (by kernel_rfl) (by kernel_rfl) (by kernel_rfl) (by exact fun _ _ _ h => h) (by kernel_rfl) (by kernel_rfl) hS5 (fun o w' ho hs => ex_nil ho (by kernel_rfl)) ?_
  refine hgt 17 30 kFA (42, .tmp 29, 6) (.pointer (some ⟨rb, 6, none⟩)) (by kernel_rfl) (by kernel_rfl) (by kernel_rfl) (by kernel_rfl) (by exact fun _ _ _ h => h) (by kernel_rfl) (by kernel_rfl) hS5 (fun o w' ho hs => ex_fa ho (by kernel_rfl) (FA6.out _)) ?_
  refine hgt 18 31 kLoad (4, .tmp 30) (.bool st.down) (by kernel_rfl) (by kernel_rfl) (by kernel_rfl) (by kernel_rfl) (by exact fun _ _ _ h => h) (by kernel_rfl) (by kernel_rfl) hS5 (fun o w' ho hs => ex_load ho (by kernel_rfl) (FL6.out _ hs)) ?_
  refine hg1 14 (by kernel_rfl) ?_
  refine hg_call 27 46 [.tmp 26] [.pointer (some ⟨sb, 0, none⟩)] (by kernel_rfl) (by kernel_rfl) (enters_of Tryz.func46 rfl rfl) (fsDown_ok w5 (HB.out.fs.below hS5)) ?_
  rintro e w6 ⟨rfl, rfl⟩
  refine ⟨_, rfl, .inr hS5, ?_⟩
  refine hg1 19 (by kernel_rfl) ?_
  refine hg_val 32 kBin (.neq, 4, .tmp 27, .tmp 31) (.bool false) (by kernel_rfl) (fun o ho => ex_bin (vx := .bool st.down) (vy := .bool st.down) ho (by kernel_rfl) (by kernel_rfl) rfl (PN32.out _)) (.inr hS5) ?_
  refine hg1 20 (by kernel_rfl) ?_
  refine hg_val 33 kPick (.tmp 25, .const (.bool true), .tmp 32) (.bool false) (by kernel_rfl) (fun o ho => ex_pick (b := false) ho (by kernel_rfl) (by kernel_rfl)) (.inr hS5) ?_
  refine hg1 21 (by kernel_rfl) ?_
  refine hg_val 34 kMove (.tmp 33) (.bool false) (by kernel_rfl) (fun o ho => ex_move ho (by kernel_rfl)) (.inr hS5) ?_
  refine hgt 22 35 kMove (.tmp 0) (.pointer (some ⟨sb, 0, none⟩)) (by kernel_rfl) (by kernel_rfl) (by kernel_rfl) (by kernel_rfl) (by exact fun _ _ _ h => h) (by kernel_rfl) (by kernel_rfl) hS5 (fun o w' ho hs => ex_move ho (by kernel_rfl)) ?_
  refine hgt 24 37 kMove (.tmp 1) (.pointer (some ⟨rb, 0, none⟩)) (by kernel_rfl) (by kernel_rfl) (by kernel_rfl) (by kernel_rfl) (by exact fun _ _ _ h => h) (by kernel_rfl) (by kernel_rfl) hS5 (fun o w' ho hs => ex_move ho (by kernel_rfl)) ?_
  refine hgt 25 38 kNil (.tmp 37) (.pointer (some ⟨rb, 0, none⟩)) (by kernel_rfl) (by kernel_rfl) (by kernel_rfl) (by kernel_rfl) (by exact fun _ _ _ h => h) (by kernel_rfl) (by kernel_rfl) hS5 (fun o w' ho hs => ex_nil ho (by kernel_rfl)) ?_
  refine hgt 26 39 kFA (42, .tmp 38, 7) (.pointer (some ⟨rb, 7, none⟩)) (by kernel_rfl) (by kernel_rfl) (by kernel_rfl) (by kernel_rfl) (by exact fun _ _ _ h => h) (by kernel_rfl) (by kernel_rfl) hS5 (fun o w' ho hs => ex_fa ho (by kernel_rfl) (FA7.out _)) ?_
  refine hgt 27 40 kLoad (2, .tmp 39) (.int .i64 st.steps) (by kernel_rfl) (by kernel_rfl) (by kernel_rfl) (by kernel_rfl) (by exact fun _ _ _ h => h) (by kernel_rfl) (by kernel_rfl) hS5 (fun o w' ho hs => ex_load ho (by kernel_rfl) (FL7.out _ hs)) ?_
  refine hg1 23 (by kernel_rfl) ?_
  refine hg_call 36 37 [.tmp 35] [.pointer (some ⟨sb, 0, none⟩)] (by kernel_rfl) (by kernel_rfl) (enters_of Tryz.func37 rfl rfl) (fsSteps_ok w6 (HB.out.fs.below hS5)) ?_
  rintro e w7 ⟨rfl, rfl⟩
  refine ⟨_, rfl, .inr hS5, ?_⟩
  refine hg1 28 (by kernel_rfl) ?_
  refine hg_val 41 kBin (.neq, 2, .tmp 36, .tmp 40) (.bool false) (by kernel_rfl) (fun o ho => ex_bin (vx := .int .i64 st.steps) (vy := .int .i64 st.steps) ho (by kernel_rfl) (by kernel_rfl) rfl (PN41.out _)) (.inr hS5) ?_
  refine hg1 29 (by kernel_rfl) ?_
  refine hg_val 42 kPick (.tmp 34, .const (.bool true), .tmp 41) (.bool false) (by kernel_rfl) (fun o ho => ex_pick (b := false) ho (by kernel_rfl) (by kernel_rfl)) (.inr hS5) ?_
  refine hg_done (by kernel_rfl) ?_
  have HW5 := hid hS5
  clear hS0 hS2 hS3 hS4 hS5 ho2 hb2 hb3 hb4 hb5 FA6 FA7 FL6 FL7 PNOT PN23 PN32 PN41
  refine (‹∀ (a : Act) (w : World), Code.wp Tryz.prog (Code.cond (.tmp 42) _ _) _ a w → _› _ _ ?_)
  refine wp_cond_false (by kernel_rfl) ?_
  go_wp2_with fail
  go_loopg [6] l.length (fun kx s6 wr => ∃ i : Nat, s6 = .int .i64 i ∧ i ≤ l.length ∧ l.length - i ≤ kx ∧ Hid (Below w1.heap.size w1 wr))
  case atStart => exact ⟨0, rfl, Nat.zero_le _, Nat.le_refl _, HW5⟩
  case round =>
    obtain ⟨i, rfl, hi, hk, HBL⟩ := hrel
    by_cases hlt : i < l.length
    · have hlt' : (i : Int) < (l.length : Int) := by omega
      obtain ⟨x, hx⟩ : ∃ x, l[i]? = some x := ⟨_, List.getElem?_eq_getElem hlt⟩
      obtain ⟨b, off, rfl, hc, hb, _, e1, e2⟩ := HL.out.cellAt (i := i) (x := .string x) (by rw [List.getElem?_map, hx]; rfl)
      have hmx : l.length ≤ 9223372036854775807 := by unfold maxLen at e2; omega
      have HXC := hid (show ∀ W, Below w1.heap.size w1 W → W.cell? ⟨b, off + i, none⟩ = some (.string x) from fun W hW => ((Fr.of_below hW : Fr (fun _ => False) w1 W).cell (p := ⟨b, off + i, none⟩) hb id).trans hc)
      obtain ⟨hr1, hr2⟩ := HRD.out x (List.mem_of_getElem? hx)
      have kx := HXC.out wr HBL.out
      have HRS := hid (fsRead_ok wr (HB.out.fs.below HBL.out) x)
      rw [hr2] at HRS
      have HR1 := hid hr1
      have HR2 := hid hr2
      obtain ⟨xs, hxs⟩ : ∃ xs, (readF st x).1 = xs := ⟨_, rfl⟩
      rw [hxs] at HRS
      have HXS := hid hxs
      clear hx hc hr1 hr2 hxs
      go_wp2_with fail
      refine HRS.out.mono ?_
      rintro e w8 ⟨a8, c8, rfl, ho8, hb8⟩
      have HO8 := hid ho8
      have HW8 := hid (Below.below HBL.out hb8)
      have kx := HXC.out w8 HW8.out
      have HRR := hid (r06Read_ok w8 (HB.out.rf.below HW8.out) (by have := HB.out.fewr.a; omega) x)
      rw [HR1.out, HR2.out, HXS.out] at HRR
      clear ho8 hb8 HRS
      go_wp2_with fail
      refine HRR.out.mono ?_
      rintro e w9 ⟨a9, c9, rfl, ho9, hb9⟩
      have HW9 := hid (Below.below HW8.out hb9)
      have HBY := hid (refBytes_ok (.slice a8 xs.length c8) (.slice a9 xs.length c9) xs xs w9 ((OwnB.bs HO8.out (S := fun _ => False) (fun _ _ _ => id)).fr (Fr.of_below hb9 : Fr (fun _ => False) w8 w9) (fun _ _ h => h)) ho9)
      rw [decide_eq_true rfl] at HBY
      clear ho9 hb9 HRR
      go_wp2_with fail
      refine HBY.out.mono ?_
      rintro e w10 ⟨rfl, hb10⟩
      have HW10 := hid (Below.below HW9.out hb10)
      clear hb10 HBY
      go_wp2_with fail
      go_roundg (l.length - (i + 1))
      case measure => exact meas_lt hk hlt
      case rel => exact ⟨i + 1, by go_num, hlt, Nat.le_refl _, HW10⟩
    · obtain rfl : i = l.length := by omega
      have hlt' : ¬ (l.length : Int) < (l.length : Int) := by omega
      go_wp2
      go_ret
      exact ⟨rfl, Below.below HW1.out HBL.out⟩
end Go.Proofs.YtgehalfnpbjjcaaGreat
