/- ref10's Get: where there is no list. -/
import Derived.Test.YtpomfegcifpfkaaR10GetPure
import Derived.Test.YtpomfegcifpfkaaR10Put
import Derived.Test.YtpomfegcifpfkaaSG
import Derived.Deep.MidRow
namespace Go.Proofs.Ytpomfegcifpfkaa
open Go Go.RowKit Go.Sort
/-- The contracts that ref10's Get leans on. -/
structure RG (P : Program) : Prop where
  iE : (P.info? 81).map (·.size) = some 35
  etRE : ∀ {k : Nat}, k = 35 → ET P 22 81 k 56 (.agg (entC default).toArray)
  cOpen : ∀ (W : World) (v : Value) (xs : List UInt8), Bs (fun _ => False) W v xs → xs.length ≤ 100000 → Calls P 29 #[v] W fun e w' => ∃ a c, e = .returned (.tuple #[.slice a (crcOpenF xs).1.length c, .int .i64 (crcOpenF xs).2]) ∧ Bs (fun _ => False) w' (.slice a (crcOpenF xs).1.length c) (crcOpenF xs).1 ∧ Below W.heap.size W w'
  cGet : ∀ (W : World) (v : Value) (xs : List UInt8), Bs (fun _ => False) W v xs → Calls P 30 #[v] W fun e w' => ∃ xa xc xa' xc', e = .returned (.tuple #[.agg #[.int .i64 (getF xs).1.tag, .int .u64 ((getF xs).1.num : Int), .slice xa (getF xs).1.byt.length xc, .slice xa' (getF xs).1.lst.length xc'], .int .i64 (getF xs).2]) ∧ TVr (fun _ => False) w' (getF xs).1 [.int .i64 (getF xs).1.tag, .int .u64 ((getF xs).1.num : Int), .slice xa (getF xs).1.byt.length xc, .slice xa' (getF xs).1.lst.length xc'] ∧ Below W.heap.size W w'
  cSmall : ∀ (W : World) (v : TV) (c0 c1 c2 c3 : Value), TVr (fun _ => False) W v [c0, c1, c2, c3] → Calls P 31 #[.agg #[c0, c1, c2, c3]] W fun r w' => r = .returned (.int .i64 (smallF v)) ∧ Below W.heap.size W w'
theorem rg : RG Try.prog := {
  iE := by kernel_rfl
  etRE := fun hk => by subst hk; exact ⟨Try.underlying22, by kernel_rfl, by kernel_rfl, by decide, by decide⟩
  cOpen := fun W v xs hb hl => by
    refine (open02_ok v xs W hb (by omega)).mono ?_
    rintro e w' ⟨v', rfl, h1, h2⟩
    obtain ⟨a, c, rfl, _⟩ := id h1
    exact ⟨a, c, rfl, h1, h2⟩
  cGet := fun W v xs hb => by
    refine (refGet_ok v xs W (fun k h => h.elim) hb).mono ?_
    rintro e w' ⟨h2, x, rfl, x0, x1, x2, x3, rfl, hv⟩
    obtain ⟨hvn, vb, vl, kv, hce, hbv, hrv, _⟩ := hv.cells
    obtain ⟨ab, cb, rfl, _⟩ := hbv
    obtain ⟨_, al2, cl2, rfl, _⟩ := hrv
    simp only [List.cons.injEq, and_true] at hce
    obtain ⟨rfl, rfl, rfl, rfl⟩ := hce
    exact ⟨_, _, _, _, rfl, hv, h2⟩
  cSmall := fun W v c0 c1 c2 c3 hv => r10Small_ok W v c0 c1 c2 c3 hv
  }
/-- What ref10's Get leaves. -/
def RGetPost (w : World) (r : List Ent × Int) (e : Ending) (w' : World) : Prop :=
  ∃ a c, e = .returned (.tuple #[.slice a r.1.length c, .int .i64 r.2]) ∧ Own w' w.heap.size 81 35 (.slice a r.1.length c) r.1.length (r.1.flatMap entC) ∧ Below w.heap.size w w'
theorem RGetPost.no {w w' : World} {f : Int} (hb : Below w.heap.size w w') : RGetPost w ([], f) (.returned (.tuple #[.slice none 0 0, .int .i64 f])) w' := ⟨none, 0, rfl, Own.nil _ _ _ _, hb⟩
variable {P : Program} {k h : Nat}
set_option maxHeartbeats 2000000 in
set_option maxRecDepth 100000 in
theorem r10Get_shut (L : SG P k h) (K : RK P) (G : RG P) (w : World) (v : Value) (xs : List UInt8) (hb : Bs (fun _ => False) w v xs) (hlen : xs.length ≤ 100000) (hf : (crcOpenF xs).2 ≠ 0) :
    Calls P 10 #[v] w (RGetPost w (getSegF xs)) := by
  rw [getSegF_shut xs hf]
  have hO := G.cOpen w v xs hb hlen
  obtain ⟨a, c, rfl, _⟩ := hb
  have hne : ((crcOpenF xs).2 == 0) = false := by simpa using hf
  have hne' : ((crcOpenF xs).2 != 0) = true := by simpa using hf
  generalize (crcOpenF xs).2 = f at *
  generalize (crcOpenF xs).1 = bs at *
  have HO := hid hO
  clear hO hf
  have u_tUnit := L.u_tUnit; have r_tUnit := L.r_tUnit; have a_tUnit := L.a_tUnit; have z_tUnit := L.z_tUnit; have v_tUnit := L.v_tUnit; have u_tInt := L.u_tInt; have r_tInt := L.r_tInt; have a_tInt := L.a_tInt; have z_tInt := L.z_tInt; have v_tInt := L.v_tInt; have u_tBool := L.u_tBool; have r_tBool := L.r_tBool; have a_tBool := L.a_tBool; have z_tBool := L.z_tBool; have v_tBool := L.v_tBool; have u_tREnts := L.u_tREnts; have r_tREnts := L.r_tREnts; have a_tREnts := L.a_tREnts; have z_tREnts := L.z_tREnts; have v_tREnts := L.v_tREnts; have u_tBytes := L.u_tBytes; have r_tBytes := L.r_tBytes; have a_tBytes := L.a_tBytes; have z_tBytes := L.z_tBytes; have v_tBytes := L.v_tBytes
  have u_rVal := K.u_rVal; have r_rVal := K.r_rVal; have a_rVal := K.a_rVal; have z_rVal := K.z_rVal; have v_rVal := K.v_rVal; have u_rVals := K.u_rVals; have r_rVals := K.r_rVals; have a_rVals := K.a_rVals; have z_rVals := K.z_rVals; have v_rVals := K.v_rVals; have u_tFault := K.u_tFault; have r_tFault := K.r_tFault; have a_tFault := K.a_tFault; have z_tFault := K.z_tFault; have v_tFault := K.v_tFault; have u_tBytesFault := K.u_tBytesFault; have r_tBytesFault := K.r_tBytesFault; have a_tBytesFault := K.a_tBytesFault; have z_tBytesFault := K.z_tBytesFault; have v_tBytesFault := K.v_tBytesFault
  have mixed := L.mixed
  have e_r02Open : ∀ args w, (callFunc 29 args).run P w = .ok (.enter 29 args) w := enters_of K.f_r02Open rfl rfl
  go_enter K.f_r10Get, Try.ntmps10
  go_wp2_with (go_at_fn 29; refine HO.out.mono ?_; rintro r w1 ⟨a1, c1, rfl, hb1, hw1⟩)
  go_ret2
  exact RGetPost.no hw1
set_option maxHeartbeats 2000000 in
set_option maxRecDepth 100000 in
theorem r10Get_odd (L : SG P k h) (K : RK P) (G : RG P) (w : World) (v : Value) (xs : List UInt8) (hb : Bs (fun _ => False) w v xs) (hlen : xs.length ≤ 100000) (hf : (crcOpenF xs).2 = 0)
    (hv : ¬ ((getF (crcOpenF xs).1).2 = 0 ∧ (getF (crcOpenF xs).1).1.tag = 3)) :
    Calls P 10 #[v] w (RGetPost w (getSegF xs)) := by
  rw [getSegF_odd xs hf hv]
  have hO := G.cOpen w v xs hb hlen
  obtain ⟨a, c, rfl, _⟩ := hb
  rw [hf] at hO
  generalize (crcOpenF xs).1 = bs at *
  have hG := fun W v hb => G.cGet W v bs hb
  generalize (getF bs).1 = tv at *
  generalize (getF bs).2 = g at *
  have HO := hid hO
  have HG := hid hG
  clear hO hf hG
  have u_tUnit := L.u_tUnit; have r_tUnit := L.r_tUnit; have a_tUnit := L.a_tUnit; have z_tUnit := L.z_tUnit; have v_tUnit := L.v_tUnit; have u_tInt := L.u_tInt; have r_tInt := L.r_tInt; have a_tInt := L.a_tInt; have z_tInt := L.z_tInt; have v_tInt := L.v_tInt; have u_tBool := L.u_tBool; have r_tBool := L.r_tBool; have a_tBool := L.a_tBool; have z_tBool := L.z_tBool; have v_tBool := L.v_tBool; have u_tREnts := L.u_tREnts; have r_tREnts := L.r_tREnts; have a_tREnts := L.a_tREnts; have z_tREnts := L.z_tREnts; have v_tREnts := L.v_tREnts; have u_tBytes := L.u_tBytes; have r_tBytes := L.r_tBytes; have a_tBytes := L.a_tBytes; have z_tBytes := L.z_tBytes; have v_tBytes := L.v_tBytes
  have u_rVal := K.u_rVal; have r_rVal := K.r_rVal; have a_rVal := K.a_rVal; have z_rVal := K.z_rVal; have v_rVal := K.v_rVal; have u_rVals := K.u_rVals; have r_rVals := K.r_rVals; have a_rVals := K.a_rVals; have z_rVals := K.z_rVals; have v_rVals := K.v_rVals; have u_tFault := K.u_tFault; have r_tFault := K.r_tFault; have a_tFault := K.a_tFault; have z_tFault := K.z_tFault; have v_tFault := K.v_tFault; have u_tBytesFault := K.u_tBytesFault; have r_tBytesFault := K.r_tBytesFault; have a_tBytesFault := K.a_tBytesFault; have z_tBytesFault := K.z_tBytesFault; have v_tBytesFault := K.v_tBytesFault; have u_tU64 := K.u_tU64; have r_tU64 := K.r_tU64; have a_tU64 := K.a_tU64; have z_tU64 := K.z_tU64; have v_tU64 := K.v_tU64
  have mixed := L.mixed
  have e_r02Open : ∀ args w, (callFunc 29 args).run P w = .ok (.enter 29 args) w := enters_of K.f_r02Open rfl rfl
  have e_refGet : ∀ args w, (callFunc 30 args).run P w = .ok (.enter 30 args) w := enters_of K.f_refGet rfl rfl
  by_cases hg : g = 0
  · subst hg
    have ht : tv.tag ≠ 3 := fun e => hv ⟨rfl, e⟩
    have ht' : (tv.tag == 3) = false := by simpa using ht
    have ht2 : (tv.tag != 3) = true := by simpa using ht
    clear hv ht
    generalize tv.tag = tt at *
    go_enter K.f_r10Get, Try.ntmps10
    go_wp2_with (first | (go_at_fn 29; refine HO.out.mono ?_; rintro r w1 ⟨a1, c1, rfl, hb1, hw1⟩; have B1 := hid hb1; clear hb1) | (go_at_fn 30; refine (HG.out _ _ B1.out).mono ?_; rintro r w2 ⟨xa, xc, xa', xc', rfl, hv2, hb2⟩; have V2 := hid hv2; clear hv2))
    go_ret2
    exact RGetPost.no ((hw1.trans (hb2.mono hw1.size)).alloc (by have := hw1.size; have := hb2.size; omega) _)
  · have hg' : (g == 0) = false := by simpa using hg
    have hg2 : (g != 0) = true := by simpa using hg
    clear hv hg
    generalize tv.tag = tt at *
    go_enter K.f_r10Get, Try.ntmps10
    go_wp2_with (first | (go_at_fn 29; refine HO.out.mono ?_; rintro r w1 ⟨a1, c1, rfl, hb1, hw1⟩; have B1 := hid hb1; clear hb1) | (go_at_fn 30; refine (HG.out _ _ B1.out).mono ?_; rintro r w2 ⟨xa, xc, xa', xc', rfl, hv2, hb2⟩; have V2 := hid hv2; clear hv2))
    go_ret2
    exact RGetPost.no ((hw1.trans (hb2.mono hw1.size)).alloc (by have := hw1.size; have := hb2.size; omega) _)
end Go.Proofs.Ytpomfegcifpfkaa
/- A whole row stored over a whole row. -/
namespace Go.Proofs.Ytpomfegcifpfkaa
open Go Go.RowKit
theorem setCells_from : ∀ (new old pre : List Value) (v : World) (g t : Nat), v.heap[g]? = some (.cells (pre ++ old).toArray t (0, 0)) → old.length = new.length →
    (v.setCells g pre.length new).heap[g]? = some (.cells (pre ++ new).toArray t (0, 0)) ∧ Fr (· = g) v (v.setCells g pre.length new)
  | [], [], pre, v, g, t, h, _ => by
    rw [World.setCells]
    exact ⟨h, Fr.refl _ _⟩
  | [], _ :: _, _, _, _, _, _, hl => by simp at hl
  | _ :: _, [], _, _, _, _, _, hl => by simp at hl
  | x :: new, y :: old, pre, v, g, t, h, hl => by
    rw [World.setCells]
    have h1 := heap_store h pre.length x
    have e1 : (pre ++ y :: old).toArray.setIfInBounds pre.length x = ((pre ++ [x]) ++ old).toArray := by
      apply Array.ext'
      simp
    rw [e1] at h1
    have ih := setCells_from new old (pre ++ [x]) _ g t h1 (by simpa using hl)
    have e2 : (pre ++ [x]).length = pre.length + 1 := by simp
    rw [e2] at ih
    refine ⟨?_, ((Fr.refl (· = g) v).setCell (p := ⟨g, pre.length, none⟩) (fun _ => rfl) x).trans ih.2⟩
    have := ih.1
    rwa [List.append_assoc] at this
theorem setCells_full {v : World} {g t : Nat} {old new : List Value} (h : v.heap[g]? = some (.cells old.toArray t (0, 0))) (hl : old.length = new.length) :
    (v.setCells g 0 new).heap[g]? = some (.cells new.toArray t (0, 0)) ∧ Fr (· = g) v (v.setCells g 0 new) := setCells_from new old [] v g t h hl
theorem there_full {v : World} {g t : Nat} {cs : List Value} (h : v.heap[g]? = some (.cells cs.toArray t (0, 0))) : v.there g 0 cs.length := fun j hj => by
  refine ⟨?_, frozen_of_row v _ _ _ _ h⟩
  rw [Nat.zero_add, cell_of_heap h]
  simp [hj]
end Go.Proofs.Ytpomfegcifpfkaa
/- ref10's Get: a list; and all of it. -/
namespace Go.Proofs.Ytpomfegcifpfkaa
open Go Go.RowKit Go.Sort
theorem rentF_tag {v : TV} (h : v.tag ≠ 3) : rentF v = none := by
  unfold rentF
  split
  · rw [dif_neg (fun h' => h h'.1)]
  · rfl
theorem rentF_len {v : TV} (h : v.lst.length ≠ 4) : rentF v = none := by
  unfold rentF
  split
  · rename_i hl; rw [hl] at h; simp at h
  · rfl
theorem rentF_fst {v a : TV} (ha : v.lst[0]? = some a) (h : ¬ (a.tag = 2 ∧ a.byt.length = 32)) : rentF v = none := by
  unfold rentF
  split
  · rename_i hl
    rw [hl] at ha
    simp only [List.getElem?_cons_zero, Option.some.injEq] at ha
    subst ha
    rw [dif_neg (fun h' => h h'.2)]
  · rfl
theorem rentF_good {v a x y z : TV} (h1 : v.tag = 3) (h2 : v.lst = [a, x, y, z]) (h3 : a.tag = 2) (h4 : a.byt.length = 32) : rentF v = some ⟨⟨a.byt, h4⟩, smallF x, smallF y, smallF z⟩ := by
  unfold rentF
  rw [h2]
  simp only
  rw [dif_pos ⟨h1, h3, h4⟩]
theorem copy_step {bs : List UInt8} {q : Nat} {u : UInt8} (hq : q < 32) (hb : bs.length = 32) (hu : bs[q]? = some u) (r : List Value) :
    ((bcells (bs.take q ++ List.replicate (32 - q) 0) ++ r).toArray.setIfInBounds q (.int .u8 (u.toNat : Int))) = (bcells (bs.take (q + 1) ++ List.replicate (32 - (q + 1)) 0) ++ r).toArray := by
  have hx : bs[q]? = some bs[q] := List.getElem?_eq_getElem (by omega)
  rw [hx] at hu
  simp only [Option.some.injEq] at hu
  subst hu
  obtain ⟨z, hz⟩ : ∃ z, 32 - q = z + 1 := ⟨31 - q, by omega⟩
  have hz2 : 32 - (q + 1) = z := by omega
  rw [hz, hz2, List.take_succ_eq_append_getElem (by omega)]
  apply Array.ext'
  simp only [Array.toList_setIfInBounds, List.replicate_succ, bcells, List.map_append, List.map_cons, List.map_nil, List.append_assoc]
  rw [List.set_append_right _ _ (by simp; omega)]
  have : q - (List.map bcell (List.take q bs)).length = 0 := by simp; omega
  rw [this]
  simp [bcell]
theorem entC_sets (y0 y1 y2 : Int) : ((((entC default).set 32 (.int .i64 y0)).set 33 (.int .i64 y1)).set 34 (.int .i64 y2)) = entC ⟨default, y0, y1, y2⟩ := by kernel_rfl
variable {P : Program} {k h : Nat}
set_option maxHeartbeats 4000000 in
set_option maxRecDepth 100000 in
theorem r10Get_list (L : SG P k h) (R : SR P) (K : RK P) (G : RG P) (w : World) (v : Value) (xs : List UInt8) (hb : Bs (fun _ => False) w v xs) (hlen : xs.length ≤ 100000) (hf : (crcOpenF xs).2 = 0)
    (hg : (getF (crcOpenF xs).1).2 = 0) (ht : (getF (crcOpenF xs).1).1.tag = 3) (hll : (getF (crcOpenF xs).1).1.lst.length ≤ 100000) :
    Calls P 10 #[v] w (RGetPost w (listF (getF (crcOpenF xs).1).1.lst)) := by
  rw [← rlistF_eq]
  have hO := G.cOpen w v xs hb hlen
  obtain ⟨a, c, rfl, _⟩ := hb
  rw [hf] at hO
  generalize (crcOpenF xs).1 = bs at *
  have hG := fun W v hb => G.cGet W v bs hb
  rw [hg, ht] at hG
  generalize (getF bs).1 = tv at *
  have HO := hid hO
  have HG := hid hG
  have CR := hid (fun W v l (hv : Es (fun _ => False) W v l) => r10Right_ok L R W v l hv)
  clear hO hf hG hg ht
  have u_tUnit := L.u_tUnit; have r_tUnit := L.r_tUnit; have a_tUnit := L.a_tUnit; have z_tUnit := L.z_tUnit; have v_tUnit := L.v_tUnit; have u_tInt := L.u_tInt; have r_tInt := L.r_tInt; have a_tInt := L.a_tInt; have z_tInt := L.z_tInt; have v_tInt := L.v_tInt; have u_tBool := L.u_tBool; have r_tBool := L.r_tBool; have a_tBool := L.a_tBool; have z_tBool := L.z_tBool; have v_tBool := L.v_tBool; have u_tHash := L.u_tHash; have r_tHash := L.r_tHash; have a_tHash := L.a_tHash; have z_tHash := L.z_tHash; have v_tHash := L.v_tHash; have u_tRWhere := L.u_tRWhere; have r_tRWhere := L.r_tRWhere; have a_tRWhere := L.a_tRWhere; have z_tRWhere := L.z_tRWhere; have v_tRWhere := L.v_tRWhere; have u_tREnt := L.u_tREnt; have r_tREnt := L.r_tREnt; have a_tREnt := L.a_tREnt; have z_tREnt := L.z_tREnt; have v_tREnt := L.v_tREnt; have u_tREnts := L.u_tREnts; have r_tREnts := L.r_tREnts; have a_tREnts := L.a_tREnts; have z_tREnts := L.z_tREnts; have v_tREnts := L.v_tREnts; have u_tBytes := L.u_tBytes; have r_tBytes := L.r_tBytes; have a_tBytes := L.a_tBytes; have z_tBytes := L.z_tBytes; have v_tBytes := L.v_tBytes; have u_tByte := L.u_tByte; have r_tByte := L.r_tByte; have a_tByte := L.a_tByte; have z_tByte := L.z_tByte; have v_tByte := L.v_tByte
  have u_rVal := K.u_rVal; have r_rVal := K.r_rVal; have a_rVal := K.a_rVal; have z_rVal := K.z_rVal; have v_rVal := K.v_rVal; have u_rVals := K.u_rVals; have r_rVals := K.r_rVals; have a_rVals := K.a_rVals; have z_rVals := K.z_rVals; have v_rVals := K.v_rVals; have u_tFault := K.u_tFault; have r_tFault := K.r_tFault; have a_tFault := K.a_tFault; have z_tFault := K.z_tFault; have v_tFault := K.v_tFault; have u_tBytesFault := K.u_tBytesFault; have r_tBytesFault := K.r_tBytesFault; have a_tBytesFault := K.a_tBytesFault; have z_tBytesFault := K.z_tBytesFault; have v_tBytesFault := K.v_tBytesFault; have u_tU64 := K.u_tU64; have r_tU64 := K.r_tU64; have a_tU64 := K.a_tU64; have z_tU64 := K.z_tU64; have v_tU64 := K.v_tU64
  have mixed := L.mixed
  have e_r02Open : ∀ args w, (callFunc 29 args).run P w = .ok (.enter 29 args) w := enters_of K.f_r02Open rfl rfl
  have e_refGet : ∀ args w, (callFunc 30 args).run P w = .ok (.enter 30 args) w := enters_of K.f_refGet rfl rfl
  have e_r10Small : ∀ args w, (callFunc 31 args).run P w = .ok (.enter 31 args) w := enters_of K.f_r10Small rfl rfl
  have e_r10Right : ∀ args w, (callFunc 12 args).run P w = .ok (.enter 12 args) w := enters_of R.f_r10Right rfl rfl
  go_enter K.f_r10Get, Try.ntmps10
  go_wp2_with (first | (go_at_fn 29; refine HO.out.mono ?_; rintro r w1 ⟨a1, c1, rfl, hb1, hw1⟩; have B1 := hid hb1; have W1 := hid hw1; clear hb1 hw1) | (go_at_fn 30; refine (HG.out _ _ B1.out).mono ?_; rintro r w2 ⟨ab, cb, al, cl, rfl, hv2, hb2⟩; have V2 := hid hv2; have B2 := hid hb2; clear hv2 hb2))
  obtain ⟨wb, hwb⟩ : ∃ wb, wb = w2.alloc (.cells #[.int .i64 3, .int .u64 (tv.num : Int), .slice ab tv.byt.length cb, .slice al tv.lst.length cl] 84 (0, 0)) := ⟨_, rfl⟩
  have hB2b : Below w2.heap.size w2 wb := by rw [hwb]; exact (Below.refl _ _).alloc (Nat.le_refl _) _
  have hbox : wb.heap[w2.heap.size]? = some (.cells #[.int .i64 3, .int .u64 (tv.num : Int), .slice ab tv.byt.length cb, .slice al tv.lst.length cl] 84 (0, 0)) := by rw [hwb]; exact heap_alloc_new w2 _
  have HBB := hid hB2b
  have HBX := hid hbox
  have HWB := hid (show Below w.heap.size w wb from (W1.out.trans (B2.out.mono W1.out.size)).trans (HBB.out.mono (by have := W1.out.size; have := B2.out.size; omega)))
  rw [← hwb]
  clear hwb hB2b hbox
  go_loopg [7, 8] tv.lst.length (fun kx s7 s8 wr => ∃ (j : Nat) (a : Option Addr) (c : Nat) (m : List Ent), s8 = .int .i64 j ∧ j ≤ tv.lst.length ∧ tv.lst.length - j ≤ kx ∧ s7 = .slice a j c ∧ Hid (rentsF (tv.lst.take j) = some m) ∧ Hid (m.length = j) ∧ Hid (Own wr wb.heap.size 81 k (.slice a j c) j (m.flatMap entC)) ∧ Hid (Below wb.heap.size wb wr))
  case atStart => exact ⟨0, none, 0, [], rfl, Nat.zero_le _, Nat.le_refl _, rfl, hid rfl, hid rfl, hid (Own.nil _ _ _ _), hid (Below.refl _ _)⟩
  case round =>
    obtain ⟨j, a4, c4, m, rfl, hj, hkx, rfl, HM, HML, HOW, HB⟩ := hrel
    have hzb := HBB.out.size
    have hzr := HB.out.size
    have HBXR := hid ((HB.out.block _ (lt_of_heap HBX.out)).trans HBX.out)
    have z3 := cell_of_heap HBXR.out 3
    simp at z3
    by_cases hlt : j < tv.lst.length
    · obtain ⟨x, hx⟩ : ∃ x, tv.lst[j]? = some x := ⟨tv.lst[j], by simp [hlt]⟩
      obtain ⟨_, vb', vl', ks, he', _, hrow, hch⟩ := V2.out.cells
      simp only [List.cons.injEq, and_true] at he'
      obtain ⟨-, -, -, rfl⟩ := he'
      obtain ⟨_, a9, c9, hsl, ⟨hs1, _, hs3⟩, _, h4⟩ := hrow
      injection hsl with e1 e2 e3
      subst e1 e3
      clear e2
      unfold maxLen at hs3
      obtain ⟨bl, off, rfl, hbl, _, hcl⟩ := h4.resolve_left (by omega)
      obtain ⟨xa, xc, xa', xc', hvx, hrd⟩ := elem_reads hch hcl hbl hx
      obtain ⟨n0, n1, n2, n3⟩ := hrd wr (HBB.out.trans (HB.out.mono hzb))
      have HXX := hid hx
      have HVX := hid hvx
      clear hx hvx hrd hcl hch h4
      obtain ⟨wx, hwx⟩ : ∃ wx, wx = wr.alloc (.cells #[.int .i64 x.tag, .int .u64 (x.num : Int), .slice xa x.byt.length xc, .slice xa' x.lst.length xc'] 84 (0, 0)) := ⟨_, rfl⟩
      have hbx : Below wr.heap.size wr wx := by rw [hwx]; exact (Below.refl _ _).alloc (Nat.le_refl _) _
      have hxb : wx.heap[wr.heap.size]? = some (.cells #[.int .i64 x.tag, .int .u64 (x.num : Int), .slice xa x.byt.length xc, .slice xa' x.lst.length xc'] 84 (0, 0)) := by rw [hwx]; exact heap_alloc_new wr _
      have HXB := hid hxb
      have HXW := hid hbx
      have HVW := hid ((HVX.out.on (HBB.out.trans (HB.out.mono hzb))).on hbx)
      clear hxb hbx
      have q0 := cell_of_heap HXB.out 0
      have q1 := cell_of_heap HXB.out 1
      have q2 := cell_of_heap HXB.out 2
      have q3 := cell_of_heap HXB.out 3
      simp at q0 q1 q2 q3
      have hww : Below w.heap.size w wx := (HWB.out.trans (HB.out.mono HWB.out.size)).trans (HXW.out.mono (by have := HWB.out.size; omega))
      have HWW := hid hww
      clear hww
      have HNo := hid (show rentF x = none → RGetPost w (rlistF tv.lst) (.returned (.tuple #[.slice none 0 0, .int .i64 3])) wx from fun hen => by
        rw [show rlistF tv.lst = ([], 3) by rw [rlistF, rentsF_none HXX.out hen]]
        exact RGetPost.no HWW.out)
      go_upto_region 12 with (fail)
      rw [← hwx]
      have HWX := hid hwx
      clear hwx
      by_cases t1 : x.tag = 3
      · have T1 := hid t1
        by_cases t2 : x.lst.length = 4
        · obtain ⟨xa1, x1, x2, x3, hxl⟩ : ∃ a b c d, x.lst = [a, b, c, d] := by
            match x.lst, t2 with
            | [a, b, c, d], _ => exact ⟨a, b, c, d, rfl⟩
          obtain ⟨_, vb2, vl2, ks2, he2, _, hrow2, hch2⟩ := HVW.out.cells
          simp only [List.cons.injEq, and_true] at he2
          obtain ⟨-, -, -, rfl⟩ := he2
          obtain ⟨_, a8, c8, hsl2, ⟨hv1, _, hv3⟩, _, h42⟩ := hrow2
          injection hsl2 with e1 e2 e3
          subst e1 e3
          clear e2
          unfold maxLen at hv3
          obtain ⟨b2, o2, rfl, hb2', _, hcl2⟩ := h42.resolve_left (by omega)
          obtain ⟨ya, yc, ya', yc', hva, hra⟩ := elem_reads (i := 0) (u := xa1) hch2 hcl2 hb2' (by rw [hxl]; rfl)
          obtain ⟨y0, y1, y2, y3⟩ := hra wx (Below.refl _ _)
          simp only [Nat.zero_mul, Nat.add_zero] at y0 y1 y2 y3
          have HXL := hid hxl
          have HVA := hid hva
          have HC2 := hid hch2
          have HL2 := hid hcl2
          clear hxl hva hra hch2 hcl2 h42
          have hb31 : (x.tag != 3) = false := by simp [t1]
          have hb41 : ((x.lst.length : Int) != 4) = false := by simp [t2]
          have hb4c : 0 < x.lst.length := by omega
          have hb4d : (0 : Int) < (x.lst.length : Int) := by omega
          by_cases t3 : xa1.tag = 2
          · by_cases t4 : xa1.byt.length = 32
            · have hb51 : (xa1.tag != 2) = false := by simp [t3]
              have hb61 : ((xa1.byt.length : Int) != 32) = false := by simp [t4]
              have hen := rentF_good T1.out HXL.out t3 t4
              have HEN := hid hen
              obtain ⟨xb1, xc1, xb1', xc1', hv1', hr1⟩ := elem_reads (i := 1) (u := x1) HC2.out HL2.out hb2' (by rw [HXL.out]; rfl)
              obtain ⟨xb2, xc2, xb2', xc2', hv2', hr2⟩ := elem_reads (i := 2) (u := x2) HC2.out HL2.out hb2' (by rw [HXL.out]; rfl)
              obtain ⟨xb3, xc3, xb3', xc3', hv3', hr3⟩ := elem_reads (i := 3) (u := x3) HC2.out HL2.out hb2' (by rw [HXL.out]; rfl)
              have iV : (P.info? 84).map (·.size) = some 4 := by have h9 := K.etV.hi; cases hq : P.info? 84 with | none => rw [hq] at h9; cases h9 | some q => rw [hq] at h9; simp at h9 ⊢; exact h9.2.1
              have hl3 : (3 : Int) < (x.lst.length : Int) := by omega
              have FL1 := hid (show ∀ v, Below wx.heap.size wx v → (Instr.loadAt 84 (.pointer (some ⟨b2, o2 + 4, none⟩))).run P v = .ok (.agg #[.int .i64 x1.tag, .int .u64 (x1.num : Int), .slice xb1 x1.byt.length xc1, .slice xb1' x1.lst.length xc1']) v from fun v hv => run_loadAt_mid v b2 (o2 + 4) 84 [.int .i64 x1.tag, .int .u64 (x1.num : Int), .slice xb1 x1.byt.length xc1, .slice xb1' x1.lst.length xc1'] _ (fun q u hu => by obtain ⟨g0, g1, g2, g3⟩ := hr1 v hv; match q, hu with | 0, hu => (cases hu; exact g0) | 1, hu => (cases hu; exact g1) | 2, hu => (cases hu; exact g2) | 3, hu => (cases hu; exact g3) | _ + 4, hu => cases hu) u_rVal rfl iV)
              have FS1 := hid (show ∀ v, Below wx.heap.size wx v → Calls P 31 #[.agg #[.int .i64 x1.tag, .int .u64 (x1.num : Int), .slice xb1 x1.byt.length xc1, .slice xb1' x1.lst.length xc1']] v fun r w' => r = .returned (.int .i64 (smallF x1)) ∧ Below v.heap.size v w' from fun v hv => G.cSmall v x1 _ _ _ _ (hv1'.on hv))
              have FI1 := hid (show ∀ v, (Instr.indexAt 82 (.slice (some ⟨b2, o2, none⟩) x.lst.length xc') (.int .i64 1)).run P v = .ok (.pointer (some ⟨b2, o2 + 4, none⟩)) v from fun v => by have hq : (1 : Int) < (x.lst.length : Int) := (by omega); go_simp)
              have FL2 := hid (show ∀ v, Below wx.heap.size wx v → (Instr.loadAt 84 (.pointer (some ⟨b2, o2 + 8, none⟩))).run P v = .ok (.agg #[.int .i64 x2.tag, .int .u64 (x2.num : Int), .slice xb2 x2.byt.length xc2, .slice xb2' x2.lst.length xc2']) v from fun v hv => run_loadAt_mid v b2 (o2 + 8) 84 [.int .i64 x2.tag, .int .u64 (x2.num : Int), .slice xb2 x2.byt.length xc2, .slice xb2' x2.lst.length xc2'] _ (fun q u hu => by obtain ⟨g0, g1, g2, g3⟩ := hr2 v hv; match q, hu with | 0, hu => (cases hu; exact g0) | 1, hu => (cases hu; exact g1) | 2, hu => (cases hu; exact g2) | 3, hu => (cases hu; exact g3) | _ + 4, hu => cases hu) u_rVal rfl iV)
              have FS2 := hid (show ∀ v, Below wx.heap.size wx v → Calls P 31 #[.agg #[.int .i64 x2.tag, .int .u64 (x2.num : Int), .slice xb2 x2.byt.length xc2, .slice xb2' x2.lst.length xc2']] v fun r w' => r = .returned (.int .i64 (smallF x2)) ∧ Below v.heap.size v w' from fun v hv => G.cSmall v x2 _ _ _ _ (hv2'.on hv))
              have FI2 := hid (show ∀ v, (Instr.indexAt 82 (.slice (some ⟨b2, o2, none⟩) x.lst.length xc') (.int .i64 2)).run P v = .ok (.pointer (some ⟨b2, o2 + 8, none⟩)) v from fun v => by have hq : (2 : Int) < (x.lst.length : Int) := (by omega); go_simp)
              have FL3 := hid (show ∀ v, Below wx.heap.size wx v → (Instr.loadAt 84 (.pointer (some ⟨b2, o2 + 12, none⟩))).run P v = .ok (.agg #[.int .i64 x3.tag, .int .u64 (x3.num : Int), .slice xb3 x3.byt.length xc3, .slice xb3' x3.lst.length xc3']) v from fun v hv => run_loadAt_mid v b2 (o2 + 12) 84 [.int .i64 x3.tag, .int .u64 (x3.num : Int), .slice xb3 x3.byt.length xc3, .slice xb3' x3.lst.length xc3'] _ (fun q u hu => by obtain ⟨g0, g1, g2, g3⟩ := hr3 v hv; match q, hu with | 0, hu => (cases hu; exact g0) | 1, hu => (cases hu; exact g1) | 2, hu => (cases hu; exact g2) | 3, hu => (cases hu; exact g3) | _ + 4, hu => cases hu) u_rVal rfl iV)
              have FS3 := hid (show ∀ v, Below wx.heap.size wx v → Calls P 31 #[.agg #[.int .i64 x3.tag, .int .u64 (x3.num : Int), .slice xb3 x3.byt.length xc3, .slice xb3' x3.lst.length xc3']] v fun r w' => r = .returned (.int .i64 (smallF x3)) ∧ Below v.heap.size v w' from fun v hv => G.cSmall v x3 _ _ _ _ (hv3'.on hv))
              have FI3 := hid (show ∀ v, (Instr.indexAt 82 (.slice (some ⟨b2, o2, none⟩) x.lst.length xc') (.int .i64 3)).run P v = .ok (.pointer (some ⟨b2, o2 + 12, none⟩)) v from fun v => by have hq : (3 : Int) < (x.lst.length : Int) := (by omega); go_simp)
              have F0 := hid (show ∀ v, (Instr.fieldAt 84 (.pointer (some ⟨wr.heap.size, 0, none⟩)) 3).run P v = .ok (.pointer (some ⟨wr.heap.size, 3, none⟩)) v from fun v => by go_simp)
              have F1 := hid (show ∀ v, Below wx.heap.size wx v → (Instr.loadAt 82 (.pointer (some ⟨wr.heap.size, 3, none⟩))).run P v = .ok (.slice (some ⟨b2, o2, none⟩) x.lst.length xc') v from fun v hv => by have hc := (hv.cell (p := ⟨wr.heap.size, 3, none⟩) (lt_of_heap HXB.out)).trans q3; go_simp)
              have FA := hid (show ∀ v : World, (Instr.alloc 81 true (.tuple #[])).run P v = .ok (.pointer (some ⟨v.heap.size, 0, none⟩)) (v.alloc (.cells (entC default).toArray 81 (0, 0))) from fun v => by go_simp)
              have FB := hid (show ∀ (v : World) y0 y1 y2, (Instr.build 79 #[(0, .int .i64 y0), (1, .int .i64 y1), (2, .int .i64 y2)]).run P v = .ok (.agg #[.int .i64 y0, .int .i64 y1, .int .i64 y2]) v from fun v y0 y1 y2 => by go_simp)
              have FC := hid (show ∀ (v : World) y0 y1 y2, (Instr.build 81 #[(1, .agg #[.int .i64 y0, .int .i64 y1, .int .i64 y2])]).run P v = .ok (.agg (entC ⟨default, y0, y1, y2⟩).toArray) v from fun v y0 y1 y2 => by have hz : ¬ (entC default).length < 35 := (by rw [entC_length]; omega); have he := entC_sets y0 y1 y2; go_simp)
              clear iV hv1' hv2' hv3' hr1 hr2 hr3 hen
              go_upto_region 14 with (fail)
              have HS0 := hid (show Below wx.heap.size wx wx.drew from below_dN (Below.refl wx.heap.size wx) 1)
              refine hg_start (Below wx.heap.size wx) 18 mixed ?_
              refine hgt 0 70 kFA (84, .tmp 9, 3) (.pointer (some ⟨wr.heap.size, 3, none⟩)) (by kernel_rfl) (by kernel_rfl) (by kernel_rfl) (by kernel_rfl) (by exact fun _ _ _ h => h) (by kernel_rfl) (by kernel_rfl) (HS0.out) (fun o w' ho hs => ex_fa ho (by kernel_rfl) (F0.out _)) ?_
              refine hgt 1 71 kLoad (82, .tmp 70) (.slice (some ⟨b2, o2, none⟩) x.lst.length xc') (by kernel_rfl) (by kernel_rfl) (by kernel_rfl) (by kernel_rfl) (by exact fun _ _ _ h => h) (by kernel_rfl) (by kernel_rfl) (HS0.out) (fun o w' ho hs => ex_load ho (by kernel_rfl) (F1.out _ hs)) ?_
              refine hgt 2 72 kIA (82, .tmp 71, .const (.int .i64 1)) (.pointer (some ⟨b2, o2 + 4, none⟩)) (by kernel_rfl) (by kernel_rfl) (by kernel_rfl) (by kernel_rfl) (by exact fun _ _ _ h => h) (by kernel_rfl) (by kernel_rfl) (HS0.out) (fun o w' ho hs => ex_ia ho (by kernel_rfl) (by kernel_rfl) (FI1.out _)) ?_
              refine hgt 3 73 kLoad (84, .tmp 72) (.agg #[.int .i64 x1.tag, .int .u64 (x1.num : Int), .slice xb1 x1.byt.length xc1, .slice xb1' x1.lst.length xc1']) (by kernel_rfl) (by kernel_rfl) (by kernel_rfl) (by kernel_rfl) (by exact fun _ _ _ h => h) (by kernel_rfl) (by kernel_rfl) (HS0.out) (fun o w' ho hs => ex_load ho (by kernel_rfl) (FL1.out _ hs)) ?_
              refine hgt 5 75 kFA (84, .tmp 9, 3) (.pointer (some ⟨wr.heap.size, 3, none⟩)) (by kernel_rfl) (by kernel_rfl) (by kernel_rfl) (by kernel_rfl) (by exact fun _ _ _ h => h) (by kernel_rfl) (by kernel_rfl) (HS0.out) (fun o w' ho hs => ex_fa ho (by kernel_rfl) (F0.out _)) ?_
              refine hgt 6 76 kLoad (82, .tmp 75) (.slice (some ⟨b2, o2, none⟩) x.lst.length xc') (by kernel_rfl) (by kernel_rfl) (by kernel_rfl) (by kernel_rfl) (by exact fun _ _ _ h => h) (by kernel_rfl) (by kernel_rfl) (HS0.out) (fun o w' ho hs => ex_load ho (by kernel_rfl) (F1.out _ hs)) ?_
              refine hgt 7 77 kIA (82, .tmp 76, .const (.int .i64 2)) (.pointer (some ⟨b2, o2 + 8, none⟩)) (by kernel_rfl) (by kernel_rfl) (by kernel_rfl) (by kernel_rfl) (by exact fun _ _ _ h => h) (by kernel_rfl) (by kernel_rfl) (HS0.out) (fun o w' ho hs => ex_ia ho (by kernel_rfl) (by kernel_rfl) (FI2.out _)) ?_
              refine hgt 8 78 kLoad (84, .tmp 77) (.agg #[.int .i64 x2.tag, .int .u64 (x2.num : Int), .slice xb2 x2.byt.length xc2, .slice xb2' x2.lst.length xc2']) (by kernel_rfl) (by kernel_rfl) (by kernel_rfl) (by kernel_rfl) (by exact fun _ _ _ h => h) (by kernel_rfl) (by kernel_rfl) (HS0.out) (fun o w' ho hs => ex_load ho (by kernel_rfl) (FL2.out _ hs)) ?_
              refine hgt 10 80 kFA (84, .tmp 9, 3) (.pointer (some ⟨wr.heap.size, 3, none⟩)) (by kernel_rfl) (by kernel_rfl) (by kernel_rfl) (by kernel_rfl) (by exact fun _ _ _ h => h) (by kernel_rfl) (by kernel_rfl) (HS0.out) (fun o w' ho hs => ex_fa ho (by kernel_rfl) (F0.out _)) ?_
              refine hgt 11 81 kLoad (82, .tmp 80) (.slice (some ⟨b2, o2, none⟩) x.lst.length xc') (by kernel_rfl) (by kernel_rfl) (by kernel_rfl) (by kernel_rfl) (by exact fun _ _ _ h => h) (by kernel_rfl) (by kernel_rfl) (HS0.out) (fun o w' ho hs => ex_load ho (by kernel_rfl) (F1.out _ hs)) ?_
              refine hgt 12 82 kIA (82, .tmp 81, .const (.int .i64 3)) (.pointer (some ⟨b2, o2 + 12, none⟩)) (by kernel_rfl) (by kernel_rfl) (by kernel_rfl) (by kernel_rfl) (by exact fun _ _ _ h => h) (by kernel_rfl) (by kernel_rfl) (HS0.out) (fun o w' ho hs => ex_ia ho (by kernel_rfl) (by kernel_rfl) (FI3.out _)) ?_
              refine hgt 13 83 kLoad (84, .tmp 82) (.agg #[.int .i64 x3.tag, .int .u64 (x3.num : Int), .slice xb3 x3.byt.length xc3, .slice xb3' x3.lst.length xc3']) (by kernel_rfl) (by kernel_rfl) (by kernel_rfl) (by kernel_rfl) (by exact fun _ _ _ h => h) (by kernel_rfl) (by kernel_rfl) (HS0.out) (fun o w' ho hs => ex_load ho (by kernel_rfl) (FL3.out _ hs)) ?_
              apply share3 (H := fun v g => Below wx.heap.size wx v ∧ wx.heap.size ≤ g ∧ v.heap[g]? = some (.cells (entC default).toArray 81 (0, 0)))
              · intro tail
                refine hg_pair [4, 17] (by kernel_rfl) (by simp) ?_
                intro i0 hi0
                simp only [List.mem_cons, List.not_mem_nil, or_false] at hi0
                rcases hi0 with rfl | rfl
                · refine hg_call 74 31 [.tmp 73] [.agg #[.int .i64 x1.tag, .int .u64 (x1.num : Int), .slice xb1 x1.byt.length xc1, .slice xb1' x1.lst.length xc1']] (by kernel_rfl) (by kernel_rfl) e_r10Small (FS1.out _ HS0.out) ?_
                  rintro r vc1b4 ⟨rfl, hc1b4⟩
                  have sc1b4 : Below wx.heap.size wx vc1b4 := (HS0.out).trans (hc1b4.mono (HS0.out).size)
                  refine ⟨_, rfl, .inr sc1b4, ?_⟩
                  refine hg_pair [9, 17] (by kernel_rfl) (by simp) ?_
                  intro i0 hi0
                  simp only [List.mem_cons, List.not_mem_nil, or_false] at hi0
                  rcases hi0 with rfl | rfl
                  · refine hg_call 79 31 [.tmp 78] [.agg #[.int .i64 x2.tag, .int .u64 (x2.num : Int), .slice xb2 x2.byt.length xc2, .slice xb2' x2.lst.length xc2']] (by kernel_rfl) (by kernel_rfl) e_r10Small (FS2.out _ sc1b4) ?_
                    rintro r vc2b12 ⟨rfl, hc2b12⟩
                    have sc2b12 : Below wx.heap.size wx vc2b12 := (sc1b4).trans (hc2b12.mono (sc1b4).size)
                    refine ⟨_, rfl, .inr sc2b12, ?_⟩
                    refine hg_pair [14, 17] (by kernel_rfl) (by simp) ?_
                    intro i0 hi0
                    simp only [List.mem_cons, List.not_mem_nil, or_false] at hi0
                    rcases hi0 with rfl | rfl
                    · refine hg_call 84 31 [.tmp 83] [.agg #[.int .i64 x3.tag, .int .u64 (x3.num : Int), .slice xb3 x3.byt.length xc3, .slice xb3' x3.lst.length xc3']] (by kernel_rfl) (by kernel_rfl) e_r10Small (FS3.out _ sc2b12) ?_
                      rintro r vc3b20 ⟨rfl, hc3b20⟩
                      have sc3b20 : Below wx.heap.size wx vc3b20 := (sc2b12).trans (hc3b20.mono (sc2b12).size)
                      refine ⟨_, rfl, .inr sc3b20, ?_⟩
                      refine hgt 15 85 kBuild (79, [(0, .tmp 74), (1, .tmp 79), (2, .tmp 84)]) (.agg #[.int .i64 (smallF x1), .int .i64 (smallF x2), .int .i64 (smallF x3)]) (by kernel_rfl) (by kernel_rfl) (by kernel_rfl) (by kernel_rfl) (by exact fun _ _ _ h => h) (by kernel_rfl) (by kernel_rfl) (sc3b20) (fun o w' ho hs => ex_build (vs := [(0, .int .i64 (smallF x1)), (1, .int .i64 (smallF x2)), (2, .int .i64 (smallF x3))]) ho (by kernel_rfl) (FB.out _ _ _ _)) ?_
                      refine hgt 16 86 kBuild (81, [(1, .tmp 85)]) (.agg (entC ⟨default, smallF x1, smallF x2, smallF x3⟩).toArray) (by kernel_rfl) (by kernel_rfl) (by kernel_rfl) (by kernel_rfl) (by exact fun _ _ _ h => h) (by kernel_rfl) (by kernel_rfl) (sc3b20) (fun o w' ho hs => ex_build (vs := [(1, .agg #[.int .i64 (smallF x1), .int .i64 (smallF x2), .int .i64 (smallF x3)])]) ho (by kernel_rfl) (FC.out _ _ _ _)) ?_
                      refine hg1 17 (by kernel_rfl) ?_
                      have sa25 : Below wx.heap.size wx (World.alloc vc3b20 (.cells (entC default).toArray 81 (0, 0))) := (sc3b20).alloc (sc3b20).size _
                      refine hg_val 10 kAlloc 81 (.pointer (some ⟨(vc3b20).heap.size, 0, none⟩)) (by kernel_rfl) (fun o ho => ex_alloc ho (FA.out _)) (.inr sa25) ?_
                      have ga25 : wx.heap.size ≤ (vc3b20).heap.size ∧ (World.alloc vc3b20 (.cells (entC default).toArray 81 (0, 0))).heap[(vc3b20).heap.size]? = some (.cells (entC default).toArray 81 (0, 0)) := ⟨(sc3b20).size, heap_alloc_new _ _⟩
                      have hT := And.intro sa25 ga25
                      generalize (World.alloc vc3b20 (.cells (entC default).toArray 81 (0, 0))) = vv at hT ⊢
                      generalize (vc3b20).heap.size = gg at hT ⊢
                      exact tail vv gg hT
                    · have sa29 : Below wx.heap.size wx (World.alloc vc2b12 (.cells (entC default).toArray 81 (0, 0))) := (sc2b12).alloc (sc2b12).size _
                      refine hg_val 10 kAlloc 81 (.pointer (some ⟨(vc2b12).heap.size, 0, none⟩)) (by kernel_rfl) (fun o ho => ex_alloc ho (FA.out _)) (.inr sa29) ?_
                      have ga29 : wx.heap.size ≤ (vc2b12).heap.size ∧ (World.alloc vc2b12 (.cells (entC default).toArray 81 (0, 0))).heap[(vc2b12).heap.size]? = some (.cells (entC default).toArray 81 (0, 0)) := ⟨(sc2b12).size, heap_alloc_new _ _⟩
                      refine hg1 14 (by kernel_rfl) ?_
                      refine hg_call 84 31 [.tmp 83] [.agg #[.int .i64 x3.tag, .int .u64 (x3.num : Int), .slice xb3 x3.byt.length xc3, .slice xb3' x3.lst.length xc3']] (by kernel_rfl) (by kernel_rfl) e_r10Small (FS3.out _ sa29) ?_
                      rintro r vc3a33 ⟨rfl, hc3a33⟩
                      have sc3a33 : Below wx.heap.size wx vc3a33 := (sa29).trans (hc3a33.mono (sa29).size)
                      refine ⟨_, rfl, .inr sc3a33, ?_⟩
                      have gc3a33 : wx.heap.size ≤ (vc2b12).heap.size ∧ vc3a33.heap[(vc2b12).heap.size]? = some (.cells (entC default).toArray 81 (0, 0)) := ⟨(ga29).1, (hc3a33.block _ (lt_of_heap (ga29).2)).trans (ga29).2⟩
                      have hT := And.intro sc3a33 gc3a33
                      generalize vc3a33 = vv at hT ⊢
                      generalize (vc2b12).heap.size = gg at hT ⊢
                      refine hgt 15 85 kBuild (79, [(0, .tmp 74), (1, .tmp 79), (2, .tmp 84)]) (.agg #[.int .i64 (smallF x1), .int .i64 (smallF x2), .int .i64 (smallF x3)]) (by kernel_rfl) (by kernel_rfl) (by kernel_rfl) (by kernel_rfl) (by exact fun _ _ _ h => h) (by kernel_rfl) (by kernel_rfl) (hT.1) (fun o w' ho hs => ex_build (vs := [(0, .int .i64 (smallF x1)), (1, .int .i64 (smallF x2)), (2, .int .i64 (smallF x3))]) ho (by kernel_rfl) (FB.out _ _ _ _)) ?_
                      refine hgt 16 86 kBuild (81, [(1, .tmp 85)]) (.agg (entC ⟨default, smallF x1, smallF x2, smallF x3⟩).toArray) (by kernel_rfl) (by kernel_rfl) (by kernel_rfl) (by kernel_rfl) (by exact fun _ _ _ h => h) (by kernel_rfl) (by kernel_rfl) (hT.1) (fun o w' ho hs => ex_build (vs := [(1, .agg #[.int .i64 (smallF x1), .int .i64 (smallF x2), .int .i64 (smallF x3)])]) ho (by kernel_rfl) (FC.out _ _ _ _)) ?_
                      rw [put_swap 10 84 (by decide), set_swap 17 14 (by decide)]
                      rw [put_swap 10 85 (by decide), set_swap 17 15 (by decide)]
                      rw [put_swap 10 86 (by decide), set_swap 17 16 (by decide)]
                      exact tail vv gg hT
                  · have sa39 : Below wx.heap.size wx (World.alloc vc1b4 (.cells (entC default).toArray 81 (0, 0))) := (sc1b4).alloc (sc1b4).size _
                    refine hg_val 10 kAlloc 81 (.pointer (some ⟨(vc1b4).heap.size, 0, none⟩)) (by kernel_rfl) (fun o ho => ex_alloc ho (FA.out _)) (.inr sa39) ?_
                    have ga39 : wx.heap.size ≤ (vc1b4).heap.size ∧ (World.alloc vc1b4 (.cells (entC default).toArray 81 (0, 0))).heap[(vc1b4).heap.size]? = some (.cells (entC default).toArray 81 (0, 0)) := ⟨(sc1b4).size, heap_alloc_new _ _⟩
                    refine hg1 9 (by kernel_rfl) ?_
                    refine hg_call 79 31 [.tmp 78] [.agg #[.int .i64 x2.tag, .int .u64 (x2.num : Int), .slice xb2 x2.byt.length xc2, .slice xb2' x2.lst.length xc2']] (by kernel_rfl) (by kernel_rfl) e_r10Small (FS2.out _ sa39) ?_
                    rintro r vc2a43 ⟨rfl, hc2a43⟩
                    have sc2a43 : Below wx.heap.size wx vc2a43 := (sa39).trans (hc2a43.mono (sa39).size)
                    refine ⟨_, rfl, .inr sc2a43, ?_⟩
                    have gc2a43 : wx.heap.size ≤ (vc1b4).heap.size ∧ vc2a43.heap[(vc1b4).heap.size]? = some (.cells (entC default).toArray 81 (0, 0)) := ⟨(ga39).1, (hc2a43.block _ (lt_of_heap (ga39).2)).trans (ga39).2⟩
                    refine hg1 14 (by kernel_rfl) ?_
                    refine hg_call 84 31 [.tmp 83] [.agg #[.int .i64 x3.tag, .int .u64 (x3.num : Int), .slice xb3 x3.byt.length xc3, .slice xb3' x3.lst.length xc3']] (by kernel_rfl) (by kernel_rfl) e_r10Small (FS3.out _ sc2a43) ?_
                    rintro r vc3a49 ⟨rfl, hc3a49⟩
                    have sc3a49 : Below wx.heap.size wx vc3a49 := (sc2a43).trans (hc3a49.mono (sc2a43).size)
                    refine ⟨_, rfl, .inr sc3a49, ?_⟩
                    have gc3a49 : wx.heap.size ≤ (vc1b4).heap.size ∧ vc3a49.heap[(vc1b4).heap.size]? = some (.cells (entC default).toArray 81 (0, 0)) := ⟨(gc2a43).1, (hc3a49.block _ (lt_of_heap (gc2a43).2)).trans (gc2a43).2⟩
                    have hT := And.intro sc3a49 gc3a49
                    generalize vc3a49 = vv at hT ⊢
                    generalize (vc1b4).heap.size = gg at hT ⊢
                    refine hgt 15 85 kBuild (79, [(0, .tmp 74), (1, .tmp 79), (2, .tmp 84)]) (.agg #[.int .i64 (smallF x1), .int .i64 (smallF x2), .int .i64 (smallF x3)]) (by kernel_rfl) (by kernel_rfl) (by kernel_rfl) (by kernel_rfl) (by exact fun _ _ _ h => h) (by kernel_rfl) (by kernel_rfl) (hT.1) (fun o w' ho hs => ex_build (vs := [(0, .int .i64 (smallF x1)), (1, .int .i64 (smallF x2)), (2, .int .i64 (smallF x3))]) ho (by kernel_rfl) (FB.out _ _ _ _)) ?_
                    refine hgt 16 86 kBuild (81, [(1, .tmp 85)]) (.agg (entC ⟨default, smallF x1, smallF x2, smallF x3⟩).toArray) (by kernel_rfl) (by kernel_rfl) (by kernel_rfl) (by kernel_rfl) (by exact fun _ _ _ h => h) (by kernel_rfl) (by kernel_rfl) (hT.1) (fun o w' ho hs => ex_build (vs := [(1, .agg #[.int .i64 (smallF x1), .int .i64 (smallF x2), .int .i64 (smallF x3)])]) ho (by kernel_rfl) (FC.out _ _ _ _)) ?_
                    rw [put_swap 10 79 (by decide), set_swap 17 9 (by decide)]
                    rw [put_swap 10 84 (by decide), set_swap 17 14 (by decide)]
                    rw [put_swap 10 85 (by decide), set_swap 17 15 (by decide)]
                    rw [put_swap 10 86 (by decide), set_swap 17 16 (by decide)]
                    exact tail vv gg hT
                · have sa55 : Below wx.heap.size wx (World.alloc wx.drew (.cells (entC default).toArray 81 (0, 0))) := (HS0.out).alloc (HS0.out).size _
                  refine hg_val 10 kAlloc 81 (.pointer (some ⟨(wx.drew).heap.size, 0, none⟩)) (by kernel_rfl) (fun o ho => ex_alloc ho (FA.out _)) (.inr sa55) ?_
                  have ga55 : wx.heap.size ≤ (wx.drew).heap.size ∧ (World.alloc wx.drew (.cells (entC default).toArray 81 (0, 0))).heap[(wx.drew).heap.size]? = some (.cells (entC default).toArray 81 (0, 0)) := ⟨(HS0.out).size, heap_alloc_new _ _⟩
                  refine hg1 4 (by kernel_rfl) ?_
                  refine hg_call 74 31 [.tmp 73] [.agg #[.int .i64 x1.tag, .int .u64 (x1.num : Int), .slice xb1 x1.byt.length xc1, .slice xb1' x1.lst.length xc1']] (by kernel_rfl) (by kernel_rfl) e_r10Small (FS1.out _ sa55) ?_
                  rintro r vc1a59 ⟨rfl, hc1a59⟩
                  have sc1a59 : Below wx.heap.size wx vc1a59 := (sa55).trans (hc1a59.mono (sa55).size)
                  refine ⟨_, rfl, .inr sc1a59, ?_⟩
                  have gc1a59 : wx.heap.size ≤ (wx.drew).heap.size ∧ vc1a59.heap[(wx.drew).heap.size]? = some (.cells (entC default).toArray 81 (0, 0)) := ⟨(ga55).1, (hc1a59.block _ (lt_of_heap (ga55).2)).trans (ga55).2⟩
                  refine hg1 9 (by kernel_rfl) ?_
                  refine hg_call 79 31 [.tmp 78] [.agg #[.int .i64 x2.tag, .int .u64 (x2.num : Int), .slice xb2 x2.byt.length xc2, .slice xb2' x2.lst.length xc2']] (by kernel_rfl) (by kernel_rfl) e_r10Small (FS2.out _ sc1a59) ?_
                  rintro r vc2a65 ⟨rfl, hc2a65⟩
                  have sc2a65 : Below wx.heap.size wx vc2a65 := (sc1a59).trans (hc2a65.mono (sc1a59).size)
                  refine ⟨_, rfl, .inr sc2a65, ?_⟩
                  have gc2a65 : wx.heap.size ≤ (wx.drew).heap.size ∧ vc2a65.heap[(wx.drew).heap.size]? = some (.cells (entC default).toArray 81 (0, 0)) := ⟨(gc1a59).1, (hc2a65.block _ (lt_of_heap (gc1a59).2)).trans (gc1a59).2⟩
                  refine hg1 14 (by kernel_rfl) ?_
                  refine hg_call 84 31 [.tmp 83] [.agg #[.int .i64 x3.tag, .int .u64 (x3.num : Int), .slice xb3 x3.byt.length xc3, .slice xb3' x3.lst.length xc3']] (by kernel_rfl) (by kernel_rfl) e_r10Small (FS3.out _ sc2a65) ?_
                  rintro r vc3a71 ⟨rfl, hc3a71⟩
                  have sc3a71 : Below wx.heap.size wx vc3a71 := (sc2a65).trans (hc3a71.mono (sc2a65).size)
                  refine ⟨_, rfl, .inr sc3a71, ?_⟩
                  have gc3a71 : wx.heap.size ≤ (wx.drew).heap.size ∧ vc3a71.heap[(wx.drew).heap.size]? = some (.cells (entC default).toArray 81 (0, 0)) := ⟨(gc2a65).1, (hc3a71.block _ (lt_of_heap (gc2a65).2)).trans (gc2a65).2⟩
                  have hT := And.intro sc3a71 gc3a71
                  generalize vc3a71 = vv at hT ⊢
                  generalize (wx.drew).heap.size = gg at hT ⊢
                  refine hgt 15 85 kBuild (79, [(0, .tmp 74), (1, .tmp 79), (2, .tmp 84)]) (.agg #[.int .i64 (smallF x1), .int .i64 (smallF x2), .int .i64 (smallF x3)]) (by kernel_rfl) (by kernel_rfl) (by kernel_rfl) (by kernel_rfl) (by exact fun _ _ _ h => h) (by kernel_rfl) (by kernel_rfl) (hT.1) (fun o w' ho hs => ex_build (vs := [(0, .int .i64 (smallF x1)), (1, .int .i64 (smallF x2)), (2, .int .i64 (smallF x3))]) ho (by kernel_rfl) (FB.out _ _ _ _)) ?_
                  refine hgt 16 86 kBuild (81, [(1, .tmp 85)]) (.agg (entC ⟨default, smallF x1, smallF x2, smallF x3⟩).toArray) (by kernel_rfl) (by kernel_rfl) (by kernel_rfl) (by kernel_rfl) (by exact fun _ _ _ h => h) (by kernel_rfl) (by kernel_rfl) (hT.1) (fun o w' ho hs => ex_build (vs := [(1, .agg #[.int .i64 (smallF x1), .int .i64 (smallF x2), .int .i64 (smallF x3)])]) ho (by kernel_rfl) (FC.out _ _ _ _)) ?_
                  rw [put_swap 10 74 (by decide), set_swap 17 4 (by decide)]
                  rw [put_swap 10 79 (by decide), set_swap 17 9 (by decide)]
                  rw [put_swap 10 84 (by decide), set_swap 17 14 (by decide)]
                  rw [put_swap 10 85 (by decide), set_swap 17 15 (by decide)]
                  rw [put_swap 10 86 (by decide), set_swap 17 16 (by decide)]
                  exact tail vv gg hT
              intro v g hvg
              obtain ⟨hvB, hvg1, hvg2⟩ := hvg
              have hE0 := entC_length ⟨default, smallF x1, smallF x2, smallF x3⟩
              obtain ⟨hs1', hs2'⟩ := setCells_full (new := entC ⟨default, smallF x1, smallF x2, smallF x3⟩) hvg2 (by rw [hE0, entC_length])
              have hrun := hid (run_storeAt_mid (P := P) v g 0 81 (entC ⟨default, smallF x1, smallF x2, smallF x3⟩).toArray (by have := there_full hvg2; rw [entC_length] at this; simpa [hE0] using this) (by rw [G.iE]; simp [hE0]) (all_oneCell_toArray (entC_one _)))
              have hvs := hid (show Below wx.heap.size wx (v.setCells g 0 (entC ⟨default, smallF x1, smallF x2, smallF x3⟩)) from Below.fr hvB hs2' (fun q hq e => by omega))
              have HGS := hid hs1'
              have HGX := hid hvg1
              clear hvB hvg1 hvg2 hs1' hs2' hE0
              refine hg1 18 (by kernel_rfl) ?_
              refine hg_store 81 (.tmp 10) (.tmp 86) (.pointer (some ⟨g, 0, none⟩)) (.agg (entC ⟨default, smallF x1, smallF x2, smallF x3⟩).toArray) (by kernel_rfl) (by kernel_rfl) (by kernel_rfl) hrun.out (.inl rfl) ?_
              refine hg_done (by kernel_rfl) ?_
              clear hrun
              generalize v.setCells g 0 (entC ⟨default, smallF x1, smallF x2, smallF x3⟩) = vs at *
              clear F0 F1 FA FB FC FL1 FL2 FL3 FI1 FI2 FI3 FS1 FS2 FS3
              obtain ⟨_, vbb, _, _, he3, hby, _⟩ := HVA.out.cells
              simp only [List.cons.injEq, and_true] at he3
              obtain ⟨-, -, rfl, -⟩ := he3
              obtain ⟨_, _, hsl3, ⟨hw1, _, hw3⟩, _, h43⟩ := hby
              injection hsl3 with e1 e2 e3
              subst e1 e3
              clear e2
              unfold maxLen at hw3
              obtain ⟨b3, o3, rfl, hb3', _, hcl3⟩ := h43.resolve_left (fun hh => by rw [hh] at t4; simp at t4)
              have HL3 := hid hcl3
              have HB4 := hid t4
              clear hcl3 h43
              go_wp2
              obtain ⟨wo, rfl⟩ : ∃ wo : World, wo = wr := ⟨_, rfl⟩
              go_loopg [11] 32 (fun kx s11 wq => ∃ q : Nat, s11 = .int .i64 q ∧ q ≤ 32 ∧ 32 - q ≤ kx ∧ Hid (wq.heap[g]? = some (.cells (bcells (xa1.byt.take q ++ List.replicate (32 - q) 0) ++ ([.int .i64 (smallF x1), .int .i64 (smallF x2), .int .i64 (smallF x3)] : List Value)).toArray 81 (0, 0))) ∧ Hid (Below wx.heap.size wx wq))
              case atStart => exact ⟨0, rfl, Nat.zero_le _, Nat.le_refl _, HGS, hvs⟩
              case round =>
                obtain ⟨q, rfl, hq, hkq, HGQ, HWQ⟩ := hrel
                by_cases hq32 : q < 32
                · obtain ⟨u, hu⟩ : ∃ u, xa1.byt[q]? = some u := ⟨xa1.byt[q], by simp [t4, hq32]⟩
                  have m0 := (HWQ.out.cell (p := ⟨wo.heap.size, 3, none⟩) (lt_of_heap HXB.out)).trans q3
                  have m1 := (HWQ.out.cell (p := ⟨b2, o2 + 2, none⟩) hb2').trans y2
                  have m2 := (HWQ.out.cell (p := ⟨b3, o3 + q, none⟩) hb3').trans (HL3.out q u hu)
                  have HCS := hid (heap_store HGQ.out q (.int .u8 (u.toNat : Int)))
                  have HCP := hid (copy_step hq32 t4 hu [.int .i64 (smallF x1), .int .i64 (smallF x2), .int .i64 (smallF x3)])
                  have m3 : (wr.cell? ⟨g, q, none⟩).isSome = true := by rw [cell_of_heap HGQ.out]; simp [bcells]; omega
                  obtain ⟨mv, m4⟩ := Option.isSome_iff_exists.1 m3
                  have m5 : wr.frozen? ⟨g, q, none⟩ = false := frozen_of_row _ _ _ _ _ HGQ.out
                  have m6 : q < xa1.byt.length := by omega
                  have m7 : (q : Int) < (xa1.byt.length : Int) := by omega
                  have h0 : ¬ h = 0 := by rw [L.hh]; omega
                  have hqh : q < h := by rw [L.hh]; omega
                  have hqh' : (q : Int) < (h : Int) := by omega
                  clear m3
                  go_wp2
                  go_roundg (32 - (q + 1))
                  case measure => omega
                  case rel => exact ⟨q + 1, by go_num, hq32, Nat.le_refl _, hid (by have h9 := HCS.out; rw [HCP.out] at h9; exact h9), hid (Below.fr HWQ.out ((Fr.refl (· = g) wr).setCell (p := ⟨g, q, none⟩) (fun _ => rfl) _) (fun z hz e => by have := HGX.out; omega))⟩
                · obtain rfl : q = 32 := by omega
                  have hcs : (bcells (xa1.byt.take 32 ++ List.replicate (32 - 32) 0) ++ ([.int .i64 (smallF x1), .int .i64 (smallF x2), .int .i64 (smallF x3)] : List Value)) = entC ⟨⟨xa1.byt, HB4.out⟩, smallF x1, smallF x2, smallF x3⟩ := by
                    rw [List.take_of_length_le (by rw [HB4.out]; exact Nat.le_refl _)]
                    show bcells (xa1.byt ++ []) ++ _ = _
                    rw [List.append_nil]; rfl
                  have HGE := HGQ.out
                  rw [hcs] at HGE
                  have HEE := hid (show rentF x = some ⟨⟨xa1.byt, HB4.out⟩, smallF x1, smallF x2, smallF x3⟩ from HEN.out)
                  clear hcs HGQ HEN
                  generalize (⟨⟨xa1.byt, HB4.out⟩, smallF x1, smallF x2, smallF x3⟩ : Ent) = e at HGE HEE
                  have ld := load_box (P := P) HGE
                  rw [← L.hk] at ld
                  have hrow : Row (fun _ => False) (wr.alloc (.cells (entC e).toArray 81 (0, 0))) (.slice (some ⟨wr.heap.size, 0, none⟩) 1 1) 1 k (entC e) := by
                    refine ⟨by rw [entC_length, L.hk], _, 1, rfl, ⟨by omega, by omega, by unfold maxLen; omega⟩, (fun h => nomatch h), .inr ⟨wr.heap.size, 0, rfl, by simp, id, fun j x hx => ?_⟩⟩
                    have h9 := cell_of_heap (heap_alloc_new wr (.cells (entC e).toArray 81 (0, 0))) j
                    rw [Nat.zero_add]
                    refine h9.trans ?_
                    simpa using hx
                  have HROW := hid hrow
                  have hone := hid (entC_one e)
                  have b7 : ¬ 16777216 < k := by rw [L.hk]; omega
                  have b8 : (entC e).length = k := by rw [L.hk, entC_length]
                  have b9 : ¬ k < (entC e).length := by omega
                  have b10 : List.foldl (fun (cs : Array Value) (x : Value × Nat) => cs.setIfInBounds x.snd x.fst) (Array.map (fun x => (entC default)[x % (entC default).length]?.getD default) (Array.range k)) (entC e).zipIdx = (entC e).toArray := by
                    rw [foldl_zipIdx]; exact setMany_full (by simp [b8])
                  have HFM := hid (show m.flatMap entC ++ entC e = (m ++ [e]).flatMap entC by simp)
                  have ER : ET P 22 81 k 56 (.agg (entC default).toArray) := G.etRE L.hk
                  have hst : ∀ (W : World), Sem.run P (storeCells ⟨W.heap.size, 0, none⟩ (entC e) 0) (W.alloc (.cells (entC default).toArray 81 (0, 0))) = .ok () (W.alloc (.cells (entC e).toArray 81 (0, 0))) := fun W => stores_new (by rw [entC_length, entC_length]) (entC_one e)
                  have k0 : ¬ k = 0 := by rw [L.hk]; omega
                  have HWG := hid (show Below wo.heap.size wo wr from HXW.out.trans (HWQ.out.mono HXW.out.size))
                  clear hrow HGE y0 y1 y2 y3 q0 q1 q2 q3
                  generalize entC default = Z at *
                  generalize entC e = X at *
                  go_wp2_with (at_builtin; refine wpl_append (v := .slice a4 j c4) (S := fun _ => False) (base := wb.heap.size) rfl rfl ER rfl (Own.fr HOW.out ((Fr.of_below HWG.out : Fr (fun _ => False) _ _).alloc _) (fun _ _ h => h)) rfl HROW.out hone.out (by omega) (by simp; have := HWG.out.size; omega) ?_; intro v5 w5 ho5 hf5 hm5; obtain ⟨a5, c5, rfl, _⟩ := ho5.len; have HO5 := hid (And.intro ho5 (And.intro hf5 hm5)); clear ho5 hf5 hm5)
                  go_roundg (tv.lst.length - (j + 1))
                  case measure => omega
                  case rel =>
                    obtain ⟨ho5, hf5, hm5⟩ := HO5.out
                    rw [HFM.out] at ho5
                    refine ⟨j + 1, a5, c5, m ++ [e], by go_num, hlt, Nat.le_refl _, rfl, hid (rentsF_take_succ HXX.out HM.out HEE.out), hid (by rw [List.length_append, HML.out]; rfl), hid ho5, hid ?_⟩
                    refine Below.fr ((HB.out.trans (HWG.out.mono hzr)).alloc (by have := HWG.out.size; omega) _) hf5 (fun q hq hm => ?_)
                    have := (Own.mine_ge HOW.out hm).1
                    omega
            · have hen := rentF_fst (v := x) (a := xa1) (by rw [HXL.out]; rfl) (fun hh => t4 hh.2)
              have HEN := hid hen
              have hb51 : (xa1.tag != 2) = false := by simp [t3]
              have hb61 : ((xa1.byt.length : Int) != 32) = true := by simp; omega
              clear hen t1 t2 t3 t4
              go_wp2
              go_ret2
              exact HNo.out HEN.out
          · have hen := rentF_fst (v := x) (a := xa1) (by rw [HXL.out]; rfl) (fun hh => t3 hh.1)
            have HEN := hid hen
            have hb51 : (xa1.tag != 2) = true := by simp [t3]
            clear hen t1 t2 t3
            go_wp2
            go_ret2
            exact HNo.out HEN.out
        · have HEN := hid (rentF_len t2)
          have hb31 : (x.tag != 3) = false := by simp [t1]
          have hb41 : ((x.lst.length : Int) != 4) = true := by simp; omega
          clear t1 t2
          go_wp2
          go_ret2
          exact HNo.out HEN.out
      · have HEN := hid (rentF_tag t1)
        have hb31 : (x.tag != 3) = true := by simp [t1]
        clear t1
        go_wp2
        go_ret2
        exact HNo.out HEN.out
    · obtain rfl : j = tv.lst.length := by omega
      have hm := HM.out
      rw [List.take_of_length_le (Nat.le_refl _)] at hm
      have hes : Es (fun _ => False) wr (.slice a4 tv.lst.length c4) m := by
        have h1 := HOW.out.row (S := fun _ => False) (fun _ _ _ => id)
        rw [L.hk] at h1
        rw [Es, HML.out]; exact h1
      have HR := hid (CR.out wr _ m hes)
      have HMM := hid hm
      have hww : Below w.heap.size w wr := HWB.out.trans (HB.out.mono HWB.out.size)
      have HWW := hid hww
      clear hm hes hww
      cases hrl : rightL m with
      | false =>
        have HN := hid (show rlistF tv.lst = ([], 3) by rw [rlistF, HMM.out]; simp [hrl])
        rw [hrl] at HR
        go_wp2_with (go_at_fn 12; refine HR.out.mono ?_; rintro r w3 ⟨rfl, hg3⟩; have G3 := hid hg3; clear hg3)
        go_ret2
        rw [HN.out]
        exact RGetPost.no (HWW.out.trans (G3.out.below.mono HWW.out.size))
      | true =>
        have HN := hid (show rlistF tv.lst = (m, 0) by rw [rlistF, HMM.out]; simp [hrl])
        rw [hrl] at HR
        go_wp2_with (go_at_fn 12; refine HR.out.mono ?_; rintro r w3 ⟨rfl, hg3⟩; have G3 := hid hg3; clear hg3)
        go_ret2
        rw [HN.out]
        have ho := HOW.out.fr (G3.out.fr (fun _ => False)) (fun _ _ => id)
        rw [L.hk] at ho
        refine ⟨a4, c4, by rw [HML.out]; rfl, ?_, HWW.out.trans (G3.out.below.mono HWW.out.size)⟩
        rw [HML.out]
        exact Own.mono ho (by have := HWB.out.size; omega)
theorem r10Get_ok (L : SG P k h) (R : SR P) (K : RK P) (G : RG P) (w : World) (v : Value) (xs : List UInt8) (hb : Bs (fun _ => False) w v xs) (hlen : xs.length ≤ 100000) :
    Calls P 10 #[v] w (RGetPost w (getSegF xs)) := by
  by_cases hf : (crcOpenF xs).2 = 0
  · by_cases hv : (getF (crcOpenF xs).1).2 = 0 ∧ (getF (crcOpenF xs).1).1.tag = 3
    · rw [getSegF_list xs hf hv]
      refine r10Get_list L R K G w v xs hb hlen hf hv.1 hv.2 ?_
      have hg : getF (crcOpenF xs).1 = ((getF (crcOpenF xs).1).1, 0) := by rw [← hv.1]
      obtain ⟨_, ⟨k, hk⟩, _⟩ := getF_back hg
      have hle := inn_le hk
      have := inn_lst hk
      omega
    · exact r10Get_odd L K G w v xs hb hlen hf hv
  · exact r10Get_shut L K G w v xs hb hlen hf
end Go.Proofs.Ytpomfegcifpfkaa
