/- segment's Put. -/
import Derived.Test.YtpomfegcifpfkaaSK
import Derived.Laws.CopyOwn
import Derived.Deep.RegionLaw
namespace Go.Proofs.Ytpomfegcifpfkaa
open Go Go.RowKit Go.Sort
variable {P : Program} {k h : Nat}
set_option maxHeartbeats 2000000 in
set_option maxRecDepth 100000 in
theorem segPut_bad (L : SG P k h) (K : SK P) {S : Nat → Prop} (t : Nat) (w : World) (v : Value) (l : List Ent) (hv : Es S w v l) (hr : rightL l = false) :
    Calls P 6 #[.pointer (some ⟨t, 0, none⟩), v] w fun e w' => e = .returned (.tuple #[.slice none 0 0, .int .i64 1]) ∧ Grown w w' := by
  have hR := segRight_ok L w v l hv
  rw [hr] at hR
  obtain ⟨a, c, rfl, hl1, hl2, hl3, _, h4⟩ := hv.cases
  have HR := hid hR
  clear hR h4 hv
  have u_tUnit := L.u_tUnit; have r_tUnit := L.r_tUnit; have a_tUnit := L.a_tUnit; have z_tUnit := L.z_tUnit; have v_tUnit := L.v_tUnit; have u_tInt := L.u_tInt; have r_tInt := L.r_tInt; have a_tInt := L.a_tInt; have z_tInt := L.z_tInt; have v_tInt := L.v_tInt; have u_tBool := L.u_tBool; have r_tBool := L.r_tBool; have a_tBool := L.a_tBool; have z_tBool := L.z_tBool; have v_tBool := L.v_tBool; have u_tEnts := L.u_tEnts; have r_tEnts := L.r_tEnts; have a_tEnts := L.a_tEnts; have z_tEnts := L.z_tEnts; have v_tEnts := L.v_tEnts; have u_tBytes := L.u_tBytes; have r_tBytes := L.r_tBytes; have a_tBytes := L.a_tBytes; have z_tBytes := L.z_tBytes; have v_tBytes := L.v_tBytes
  have u_tVal := K.u_tVal; have r_tVal := K.r_tVal; have a_tVal := K.a_tVal; have z_tVal := K.z_tVal; have v_tVal := K.v_tVal; have u_tVals := K.u_tVals; have r_tVals := K.r_tVals; have a_tVals := K.a_tVals; have z_tVals := K.z_tVals; have v_tVals := K.v_tVals; have u_tFault := K.u_tFault; have r_tFault := K.r_tFault; have a_tFault := K.a_tFault; have z_tFault := K.z_tFault; have v_tFault := K.v_tFault; have u_tPtrTab := K.u_tPtrTab; have r_tPtrTab := K.r_tPtrTab; have a_tPtrTab := K.a_tPtrTab; have z_tPtrTab := K.z_tPtrTab; have v_tPtrTab := K.v_tPtrTab; have u_tBytesFault := K.u_tBytesFault; have r_tBytesFault := K.r_tBytesFault; have a_tBytesFault := K.a_tBytesFault; have z_tBytesFault := K.z_tBytesFault; have v_tBytesFault := K.v_tBytesFault
  have mixed := L.mixed
  have e_segRight : ∀ args w, (callFunc 11 args).run P w = .ok (.enter 11 args) w := enters_of L.f_segRight rfl rfl
  go_enter K.f_segPut, Try.ntmps6
  go_wp2_with (go_at_fn 11; refine HR.out.mono ?_; rintro r w1 ⟨rfl, hg1⟩)
  go_ret2
  exact ⟨rfl, hg1⟩
theorem enc_segs_len {l : List Ent} (hr : rightL l = true) : (enc (segsTV l)).length ≤ 100000 := by
  obtain ⟨kk, hk⟩ := inn_segs hr
  have h1 := inn_le hk
  have h2 := inn_length _ _ _ hk
  rw [enc_length, h2]; omega
set_option maxHeartbeats 4000000 in
set_option maxRecDepth 100000 in
theorem segPut_good (L : SG P k h) (K : SK P) {S : Nat → Prop} (t : Nat) (w : World) (v : Value) (l : List Ent) (hv : Es S w v l) (hr : rightL l = true) (hT : Tab w t) :
    Calls P 6 #[.pointer (some ⟨t, 0, none⟩), v] w (PutPost t w (sealed (enc (segsTV l)))) := by
  have hR := segRight_ok L w v l hv
  rw [hr] at hR
  have ht := hT.lt
  have HT := hid hT
  obtain ⟨a, c, rfl, hl1, hl2, hl3, _, h4⟩ := hv.cases
  have hlen := rightL_len hr
  have HR := hid hR
  have H4 := hid h4
  have HRL := hid hr
  clear hR h4 hv hT hr
  have u_tUnit := L.u_tUnit; have r_tUnit := L.r_tUnit; have a_tUnit := L.a_tUnit; have z_tUnit := L.z_tUnit; have v_tUnit := L.v_tUnit; have u_tInt := L.u_tInt; have r_tInt := L.r_tInt; have a_tInt := L.a_tInt; have z_tInt := L.z_tInt; have v_tInt := L.v_tInt; have u_tBool := L.u_tBool; have r_tBool := L.r_tBool; have a_tBool := L.a_tBool; have z_tBool := L.z_tBool; have v_tBool := L.v_tBool; have u_tEnt := L.u_tEnt; have r_tEnt := L.r_tEnt; have a_tEnt := L.a_tEnt; have z_tEnt := L.z_tEnt; have v_tEnt := L.v_tEnt; have u_tEnts := L.u_tEnts; have r_tEnts := L.r_tEnts; have a_tEnts := L.a_tEnts; have z_tEnts := L.z_tEnts; have v_tEnts := L.v_tEnts; have u_tBytes := L.u_tBytes; have r_tBytes := L.r_tBytes; have a_tBytes := L.a_tBytes; have z_tBytes := L.z_tBytes; have v_tBytes := L.v_tBytes
  have u_tVal := K.u_tVal; have r_tVal := K.r_tVal; have a_tVal := K.a_tVal; have z_tVal := K.z_tVal; have v_tVal := K.v_tVal; have u_tVals := K.u_tVals; have r_tVals := K.r_tVals; have a_tVals := K.a_tVals; have z_tVals := K.z_tVals; have v_tVals := K.v_tVals; have u_tFault := K.u_tFault; have r_tFault := K.r_tFault; have a_tFault := K.a_tFault; have z_tFault := K.z_tFault; have v_tFault := K.v_tFault; have u_tPtrTab := K.u_tPtrTab; have r_tPtrTab := K.r_tPtrTab; have a_tPtrTab := K.a_tPtrTab; have z_tPtrTab := K.z_tPtrTab; have v_tPtrTab := K.v_tPtrTab; have u_tBytesFault := K.u_tBytesFault; have r_tBytesFault := K.r_tBytesFault; have a_tBytesFault := K.a_tBytesFault; have z_tBytesFault := K.z_tBytesFault; have v_tBytesFault := K.v_tBytesFault
  have mixed := L.mixed
  have etV := K.etV
  have e_segRight : ∀ args w, (callFunc 11 args).run P w = .ok (.enter 11 args) w := enters_of L.f_segRight rfl rfl
  have e_segValue : ∀ args w, (callFunc 19 args).run P w = .ok (.enter 19 args) w := enters_of K.f_segValue rfl rfl
  have e_tlvMany : ∀ args w, (callFunc 21 args).run P w = .ok (.enter 21 args) w := enters_of K.f_tlvMany rfl rfl
  have e_tlvPut : ∀ args w, (callFunc 20 args).run P w = .ok (.enter 20 args) w := enters_of K.f_tlvPut rfl rfl
  have e_crcSeal : ∀ args w, (callFunc 22 args).run P w = .ok (.enter 22 args) w := enters_of K.f_crcSeal rfl rfl
  have CM := hid K.cMany
  have CP := hid K.cPut
  have CS := hid K.cSeal
  go_enter K.f_segPut, Try.ntmps6
  go_wp2_with (go_at_fn 11; refine HR.out.mono ?_; rintro r w1 ⟨rfl, hg1⟩; have G1 := hid hg1; clear hg1)
  go_loopg [20, 6] l.length (fun kx s20 s6 wr => ∃ (i : Nat) (a : Option Addr) (c : Nat) (ks : List Value), s20 = .int .i64 i ∧ i ≤ l.length ∧ l.length - i ≤ kx ∧ s6 = .slice a i c ∧ Hid (Own wr w.heap.size 74 4 (.slice a i c) i ks) ∧ Hid (TVch (mine (.slice a i c)) wr ((l.take i).map segTV) ks) ∧ Hid (Below w.heap.size w wr))
  case atStart => exact ⟨0, none, 0, [], rfl, Nat.zero_le _, Nat.le_refl _, rfl, hid (Own.nil _ _ _ _), hid (by rw [List.take_zero, List.map_nil, TVch]), hid G1.out.below⟩
  case round =>
    obtain ⟨i, a6, c6, ks, rfl, hi, hkx, rfl, HO, HC, HB⟩ := hrel
    by_cases hlt : i < l.length
    · obtain ⟨b, off, rfl, hb, hS, hcell⟩ := H4.out.resolve_left (fun e => by subst e; simp at hlt)
      obtain ⟨e, he⟩ : ∃ e, l[i]? = some e := ⟨l[i], by simp [hlt]⟩
      have hre : rightP e = true := rightL_mem HRL.out (List.mem_of_getElem? he)
      have hcr : ∀ i e j x, l[i]? = some e → (entC e)[j]? = some x → wr.cell? ⟨b, off + i * 35 + j, none⟩ = some x := fun i e j x h1 h2 => (HB.out.cell (p := ⟨b, off + i * 35 + j, none⟩) hb).trans (hcell i e j x h1 h2)
      have l1 : Sem.run P (loadCellsFrom ⟨b, off + i * k, none⟩ 0 k #[]) wr = .ok (entC e).toArray wr := by rw [L.hk]; exact load_ent hcr he
      have st : Sem.run P (storeCells ⟨wr.heap.size, 0, none⟩ (entC e) 0) (wr.alloc (.cells (entC default).toArray 50 (0, 0))) = .ok () (wr.alloc (.cells (entC e).toArray 50 (0, 0))) := stores_new (by rw [entC_length, entC_length]) (entC_one e)
      obtain ⟨wx, hwx⟩ : ∃ wx, wx = wr.alloc (.cells (entC e).toArray 50 (0, 0)) := ⟨_, rfl⟩
      have hbx : Below wr.heap.size wr wx := by rw [hwx]; exact (Below.refl _ _).alloc (Nat.le_refl _) _
      have hx : wx.heap[wr.heap.size]? = some (.cells (entC e).toArray 50 (0, 0)) := by rw [hwx]; exact heap_alloc_new wr _
      have la : Sem.run P (loadCellsFrom ⟨wr.heap.size, 0, none⟩ 0 k #[]) wx = .ok (entC e).toArray wx := by rw [L.hk]; exact load_box hx
      have cv := K.cValue wx e hre
      have nX : (entC e).length = k := by rw [L.hk]; exact entC_length e
      have hle := HB.out.size
      have hly := hbx.size
      have HXB := hid hbx
      have HSN := hid (show (l.take i).map segTV ++ [segTV e] = (l.take (i + 1)).map segTV by rw [List.take_add_one, he]; simp)
      have GE := hid (And.intro he hcell)
      rw [← hwx] at st
      clear hwx hbx hx hcr hre he hcell
      generalize segTV e = T at *
      generalize entC e = X at *
      generalize entC default = Z at *
      go_wp2_with (first
        | (go_at_fn 19; refine cv.mono ?_; rintro r w2 ⟨x0, x1, x2, x3, rfl, hv2, hb2⟩; have h1 := hid hv2.one; have HV2 := hid hv2; have HB2 := hid hb2; have hz2 := hb2.size; clear hv2 hb2)
        | (at_builtin; refine wpl_append (v := .slice a6 i c6) (S := fun _ => False) (base := w.heap.size) rfl rfl etV rfl (Own.fr HO.out (((Fr.of_below HXB.out).trans (Fr.of_below HB2.out) : Fr (fun _ => False) _ _).alloc _) (fun _ _ h => h)) rfl (row_atk (heap_alloc_new w2 _) rfl (by omega)) h1.out (by omega) (by simp; omega) ?_; intro v5 w5 ho5 hf5 hm5; obtain ⟨a5, c5, rfl, _⟩ := ho5.len; have HO5 := hid (And.intro ho5 (And.intro hf5 hm5)); clear ho5 hf5 hm5))
      go_roundg (l.length - (i + 1))
      case measure => omega
      case rel =>
        obtain ⟨ho5, hf5, hm5⟩ := HO5.out
        have fa : Fr (fun _ => False) wr w2 := (Fr.of_below HXB.out).trans (Fr.of_below HB2.out)
        have hold := TVch.fr (fa.alloc (.cells #[x0, x1, x2, x3] 74 (0, 0))) (fun _ _ h => h.elim) _ _ HC.out
        have hnew : TVr (mine (.slice a6 i c6)) (w2.alloc (.cells #[x0, x1, x2, x3] 74 (0, 0))) T [x0, x1, x2, x3] :=
          (TVr.mono (S := fun k => k < wx.heap.size) (fun q _ hq => by have := (Own.mine_ge HO.out hq).2; omega) _ _ HV2.out).on ((Below.refl _ _).alloc (Nat.le_refl _) _)
        have hall := TVch.shift (hold.snoc hnew) hf5 (fun _ _ hq => hq) (fun q hq hm => (hm5 q hm).elim id (fun h => absurd hq (by omega)))
        rw [HSN.out] at hall
        refine ⟨i + 1, a5, c5, _, by go_num, hlt, Nat.le_refl _, rfl, hid ho5, hid hall, hid ?_⟩
        refine Below.fr (((HB.out.trans (HXB.out.mono hle)).trans (HB2.out.mono (by omega))).alloc (by omega) _) hf5 (fun q hq hm => ?_)
        have := (Own.mine_ge HO.out hm).1
        omega
    · obtain rfl : i = l.length := by omega
      have hTw : Tab wr t := HT.out.fr (Fr.of_below HB.out : Fr (fun _ => False) w wr) id
      have hvs : TVsl (fun _ => False) wr (l.map segTV) (.slice a6 l.length c6) := by
        have h1 := HO.out.row (S := fun _ => False) (fun _ _ _ => id)
        have h2 := HC.out
        rw [List.take_of_length_le (Nat.le_refl _)] at h2
        exact ⟨ks, by rw [List.length_map]; exact h1, TVch.mono (fun _ _ h => h.elim) _ _ h2⟩
      have hM := CM.out wr _ _ hvs (by rw [List.length_map]; omega)
      have hP := fun W x hx => CP.out W x _ _ hx (putF_segs HRL.out)
      have hS := fun W a c hT ho => CS.out t W a c _ hT ho (enc_segs_len HRL.out)
      rw [← segsTV] at hM
      have HM := hid hM
      have HP := hid hP
      have HS := hid hS
      have HTW := hid hTw
      have hle := HB.out.size
      clear hM hP hS hvs hTw
      generalize enc (segsTV l) = bs at *
      generalize segsTV l = tv at *
      go_wp2_with (first | (go_at_fn 21; refine HM.out.mono ?_; rintro e w2 ⟨c0, c1, c2, c3, rfl, hv2, hb2⟩; have B2 := hid (And.intro hv2 hb2); clear hv2 hb2) | (go_at_fn 20; refine (HP.out _ _ B2.out.1).mono ?_; rintro e w3 ⟨a3, q3, rfl, ho3, hb3⟩; have B3 := hid (And.intro ho3 hb3); clear ho3 hb3; have T3 := hid ((HTW.out.fr (Fr.of_below B2.out.2 : Fr (fun _ => False) _ _) id).fr (Fr.of_below B3.out.2 : Fr (fun _ => False) _ _) id); have O3 := hid (show OwnB w3 (t + 1) (.slice a3 bs.length q3) bs from Own.mono B3.out.1 (by have := B2.out.2.size; omega))) | (go_at_fn 22; refine (HS.out _ _ _ T3.out O3.out).mono ?_; rintro e w4 ⟨a4, q4, rfl, ho4, hT4, hF4⟩; have B4 := hid (And.intro ho4 (And.intro hT4 hF4)); clear ho4 hT4 hF4))
      go_ret2
      have z2 := B2.out.2.size
      have z3 := B3.out.2.size
      refine ⟨a4, q4, rfl, Own.mono B4.out.1 (by omega), B4.out.2.1, ?_⟩
      exact (((Fr.of_below HB.out).trans (Fr.of_below B2.out.2)).trans (Fr.of_below B3.out.2)).trans B4.out.2.2
end Go.Proofs.Ytpomfegcifpfkaa
/- segment's entry of a value: what is told as none. -/
namespace Go.Proofs.Ytpomfegcifpfkaa
open Go Go.RowKit Go.Sort
variable {P : Program} {k h : Nat}
/-- What entry answers. -/
def EntryPost (w : World) (v : TV) (r : Ending) (w' : World) : Prop := ∃ X : List Value, X.length = 35 ∧ r = .returned (.tuple #[.agg X.toArray, .bool (entryF v).isSome]) ∧ (∀ e, entryF v = some e → X = entC e) ∧ Below w.heap.size w w' ∧ (∀ u ∈ X, u.oneCell' = true)
theorem entryF_tag {v : TV} (h : v.tag ≠ 3) : entryF v = none := by
  unfold entryF
  split
  · rw [dif_neg (fun h' => h h'.1)]
  · rfl
theorem entryF_len {v : TV} (h : v.lst.length ≠ 4) : entryF v = none := by
  unfold entryF
  split
  · rename_i hl; rw [hl] at h; simp at h
  · rfl
theorem entryF_head {v a : TV} (ha : v.lst[0]? = some a) (h : ¬ (a.tag = 2 ∧ a.byt.length = 32)) : entryF v = none := by
  unfold entryF
  split
  · rename_i hl
    rw [hl] at ha
    simp at ha
    subst ha
    rw [dif_neg (fun h' => h h'.2)]
  · rfl
/-- A list's element, as its cells lie. -/
theorem elem_cells {S : Nat → Prop} {w : World} {l : List TV} {ks : List Value} (hch : TVch S w l ks) {bl off : Nat} (hc : ∀ j x, ks[j]? = some x → w.cell? ⟨bl, off + j, none⟩ = some x) (hbl : bl < w.heap.size) {W : World} (hB : Below w.heap.size w W) {i : Nat} {u : TV} (hu : l[i]? = some u) :
    ∃ a c a' c', W.cell? ⟨bl, off + i * 4, none⟩ = some (.int .i64 u.tag) ∧ W.cell? ⟨bl, off + i * 4 + 1, none⟩ = some (.int .u64 (u.num : Int)) ∧ W.cell? ⟨bl, off + i * 4 + 2, none⟩ = some (.slice a u.byt.length c) ∧ W.cell? ⟨bl, off + i * 4 + 3, none⟩ = some (.slice a' u.lst.length c') ∧ Bs S w (.slice a u.byt.length c) u.byt := by
  obtain ⟨cs, hv, hg⟩ := hch.get hu
  obtain ⟨_, vb, vl, kk, rfl, hb, hr, _⟩ := hv.cells
  obtain ⟨a, c, rfl, hb2⟩ := hb
  obtain ⟨_, a', c', rfl, _⟩ := hr
  have go : ∀ j x, ([.int .i64 u.tag, .int .u64 (u.num : Int), .slice a u.byt.length c, .slice a' u.lst.length c'] : List Value)[j]? = some x → W.cell? ⟨bl, off + i * 4 + j, none⟩ = some x := fun j x hx => by
    have := (hB.cell (p := ⟨bl, off + (i * 4 + j), none⟩) hbl).trans (hc (i * 4 + j) x (hg j x hx))
    rw [← Nat.add_assoc] at this; exact this
  exact ⟨a, c, a', c', go 0 _ rfl, go 1 _ rfl, go 2 _ rfl, go 3 _ rfl, ⟨a, c, rfl, hb2⟩⟩
set_option maxHeartbeats 4000000 in
set_option maxRecDepth 100000 in
theorem entry_bad (L : SG P k h) (K : SK P) {S : Nat → Prop} (iE : (P.info? 50).map (·.size) = some 35) (w : World) (v : TV) (c0 c1 c2 c3 : Value) (hv : TVr S w v [c0, c1, c2, c3]) (hbad : v.tag ≠ 3 ∨ v.lst.length ≠ 4) :
    Calls P 28 #[.agg #[c0, c1, c2, c3]] w (EntryPost w v) := by
  have hN : entryF v = none := hbad.elim entryF_tag entryF_len
  obtain ⟨_, vb, vl, ks, he, hb, hr, hch⟩ := hv.cells
  obtain ⟨ab, cb, rfl, hb2⟩ := hb
  obtain ⟨_, al, cl, rfl, ⟨hl1, hl2, hl3⟩, _, h4⟩ := hr
  simp only [List.cons.injEq, and_true] at he
  obtain ⟨rfl, rfl, rfl, rfl⟩ := he
  have u_tUnit := L.u_tUnit; have r_tUnit := L.r_tUnit; have a_tUnit := L.a_tUnit; have z_tUnit := L.z_tUnit; have v_tUnit := L.v_tUnit; have u_tInt := L.u_tInt; have r_tInt := L.r_tInt; have a_tInt := L.a_tInt; have z_tInt := L.z_tInt; have v_tInt := L.v_tInt; have u_tBool := L.u_tBool; have r_tBool := L.r_tBool; have a_tBool := L.a_tBool; have z_tBool := L.z_tBool; have v_tBool := L.v_tBool; have u_tEnt := L.u_tEnt; have r_tEnt := L.r_tEnt; have a_tEnt := L.a_tEnt; have z_tEnt := L.z_tEnt; have v_tEnt := L.v_tEnt; have u_tHash := L.u_tHash; have r_tHash := L.r_tHash; have a_tHash := L.a_tHash; have z_tHash := L.z_tHash; have v_tHash := L.v_tHash; have u_tBytes := L.u_tBytes; have r_tBytes := L.r_tBytes; have a_tBytes := L.a_tBytes; have z_tBytes := L.z_tBytes; have v_tBytes := L.v_tBytes
  have u_tVal := K.u_tVal; have r_tVal := K.r_tVal; have a_tVal := K.a_tVal; have z_tVal := K.z_tVal; have v_tVal := K.v_tVal; have u_tVals := K.u_tVals; have r_tVals := K.r_tVals; have a_tVals := K.a_tVals; have z_tVals := K.z_tVals; have v_tVals := K.v_tVals; have u_tU64 := K.u_tU64; have r_tU64 := K.r_tU64; have a_tU64 := K.a_tU64; have z_tU64 := K.z_tU64; have v_tU64 := K.v_tU64
  have mixed := L.mixed
  obtain ⟨wb, hwb⟩ : ∃ wb, wb = w.alloc (.cells #[.int .i64 v.tag, .int .u64 (v.num : Int), .slice ab v.byt.length cb, .slice al v.lst.length cl] 74 (0, 0)) := ⟨_, rfl⟩
  have hzb : wb.heap.size = w.heap.size + 1 := by rw [hwb]; simp
  have hbox : wb.heap[w.heap.size]? = some (.cells #[.int .i64 v.tag, .int .u64 (v.num : Int), .slice ab v.byt.length cb, .slice al v.lst.length cl] 74 (0, 0)) := by rw [hwb]; exact heap_alloc_new w _
  have st : Sem.run P (storeCells ⟨w.heap.size + 1, 0, none⟩ (entC default) 0) (wb.alloc (.cells (entC default).toArray 50 (0, 0))) = .ok () (wb.alloc (.cells (entC default).toArray 50 (0, 0))) := by
    have := stores_new (P := P) (w := wb) (t := 50) (old := entC default) (new := entC default) rfl (entC_one _)
    rw [hzb] at this; exact this
  obtain ⟨wx, hwx⟩ : ∃ wx, wx = wb.alloc (.cells (entC default).toArray 50 (0, 0)) := ⟨_, rfl⟩
  have hx : wx.heap[w.heap.size + 1]? = some (.cells (entC default).toArray 50 (0, 0)) := by rw [hwx, ← hzb]; exact heap_alloc_new wb _
  have hx0 : wx.heap[w.heap.size]? = some (.cells #[.int .i64 v.tag, .int .u64 (v.num : Int), .slice ab v.byt.length cb, .slice al v.lst.length cl] 74 (0, 0)) := by rw [hwx, heap_alloc_old _ _ (by omega)]; exact hbox
  have la : Sem.run P (loadCellsFrom ⟨w.heap.size + 1, 0, none⟩ 0 k #[]) wx = .ok (entC default).toArray wx := by rw [L.hk]; exact load_box hx
  have k0 := cell_of_heap hx0 0
  have k1 := cell_of_heap hx0 1
  have k2 := cell_of_heap hx0 2
  have k3 := cell_of_heap hx0 3
  simp at k0 k1 k2 k3
  have hB : Below w.heap.size w wx := by rw [hwx, hwb]; exact ((Below.refl _ _).alloc (Nat.le_refl _) _).alloc (by simp) _
  have nX : (entC default).length = k := by rw [L.hk]; exact entC_length _
  have HX := hid hx
  have HB := hid hB
  have HN := hid hN
  have HZ1 := hid (entC_one default)
  have HW := hid (hwx.trans (by rw [hwb]) : wx = (w.alloc (.cells #[.int .i64 v.tag, .int .u64 (v.num : Int), .slice ab v.byt.length cb, .slice al v.lst.length cl] 74 (0, 0))).alloc (.cells (entC default).toArray 50 (0, 0)))
  rw [HW.out] at la k0 k1 k2 k3
  rw [hwb] at st
  clear hx hx0 hbox hB hN h4 hb2 hch hwx hzb hwb
  by_cases ht : v.tag = 3
  · have hq : ¬ ((v.lst.length : Int) = 4) := by have := hbad.resolve_left (fun h => h ht); omega
    have hd : decide ((v.lst.length : Int) = 4) = false := decide_eq_false hq
    have hw2 := HW.out
    rw [ht] at hw2 la st k0
    have HW2 := hid hw2
    clear hw2 HW
    generalize entC default = Z at *
    go_enter K.f_segEntry, Try.ntmps28
    go_wp2
    have := HX.out
    rw [HW2.out] at this
    refine bodyPost_ret (results_ct rfl _ _ (w.heap.size + 1) _ _ _ _ rfl this L.u_tEnt rfl (by simpa [nX, L.hk] using iE)) rfl ⟨Z, by rw [nX, L.hk], by rw [HN.out]; rfl, (fun e h => by rw [HN.out] at h; cases h), by rw [← HW2.out]; exact HB.out, HZ1.out⟩
  · have hd : decide (v.tag = 3) = false := decide_eq_false ht
    generalize entC default = Z at *
    go_enter K.f_segEntry, Try.ntmps28
    go_wp2
    have := HX.out
    rw [HW.out] at this
    refine bodyPost_ret (results_ct rfl _ _ (w.heap.size + 1) _ _ _ _ rfl this L.u_tEnt rfl (by simpa [nX, L.hk] using iE)) rfl ⟨Z, by rw [nX, L.hk], by rw [HN.out]; rfl, (fun e h => by rw [HN.out] at h; cases h), by rw [← HW.out]; exact HB.out, HZ1.out⟩
set_option maxHeartbeats 4000000 in
set_option maxRecDepth 100000 in
theorem entry_bad2 (L : SG P k h) (K : SK P) {S : Nat → Prop} (iE : (P.info? 50).map (·.size) = some 35) (w : World) (v : TV) (c0 c1 c2 c3 : Value) (hv : TVr S w v [c0, c1, c2, c3]) (ht : v.tag = 3) (hlen : v.lst.length = 4) (a : TV) (ha : v.lst[0]? = some a) (hbad : ¬ (a.tag = 2 ∧ a.byt.length = 32)) :
    Calls P 28 #[.agg #[c0, c1, c2, c3]] w (EntryPost w v) := by
  have hN : entryF v = none := entryF_head ha hbad
  obtain ⟨_, vb, vl, ks, he, hb, hr, hch⟩ := hv.cells
  obtain ⟨ab, cb, rfl, hb2⟩ := hb
  obtain ⟨_, al, cl, rfl, ⟨hl1, hl2, hl3⟩, _, h4⟩ := hr
  simp only [List.cons.injEq, and_true] at he
  obtain ⟨rfl, rfl, rfl, rfl⟩ := he
  have u_tUnit := L.u_tUnit; have r_tUnit := L.r_tUnit; have a_tUnit := L.a_tUnit; have z_tUnit := L.z_tUnit; have v_tUnit := L.v_tUnit; have u_tInt := L.u_tInt; have r_tInt := L.r_tInt; have a_tInt := L.a_tInt; have z_tInt := L.z_tInt; have v_tInt := L.v_tInt; have u_tBool := L.u_tBool; have r_tBool := L.r_tBool; have a_tBool := L.a_tBool; have z_tBool := L.z_tBool; have v_tBool := L.v_tBool; have u_tEnt := L.u_tEnt; have r_tEnt := L.r_tEnt; have a_tEnt := L.a_tEnt; have z_tEnt := L.z_tEnt; have v_tEnt := L.v_tEnt; have u_tHash := L.u_tHash; have r_tHash := L.r_tHash; have a_tHash := L.a_tHash; have z_tHash := L.z_tHash; have v_tHash := L.v_tHash; have u_tBytes := L.u_tBytes; have r_tBytes := L.r_tBytes; have a_tBytes := L.a_tBytes; have z_tBytes := L.z_tBytes; have v_tBytes := L.v_tBytes
  have u_tVal := K.u_tVal; have r_tVal := K.r_tVal; have a_tVal := K.a_tVal; have z_tVal := K.z_tVal; have v_tVal := K.v_tVal; have u_tVals := K.u_tVals; have r_tVals := K.r_tVals; have a_tVals := K.a_tVals; have z_tVals := K.z_tVals; have v_tVals := K.v_tVals; have u_tU64 := K.u_tU64; have r_tU64 := K.r_tU64; have a_tU64 := K.a_tU64; have z_tU64 := K.z_tU64; have v_tU64 := K.v_tU64
  have mixed := L.mixed
  obtain ⟨wb, hwb⟩ : ∃ wb, wb = w.alloc (.cells #[.int .i64 v.tag, .int .u64 (v.num : Int), .slice ab v.byt.length cb, .slice al v.lst.length cl] 74 (0, 0)) := ⟨_, rfl⟩
  have hzb : wb.heap.size = w.heap.size + 1 := by rw [hwb]; simp
  have hbox : wb.heap[w.heap.size]? = some (.cells #[.int .i64 v.tag, .int .u64 (v.num : Int), .slice ab v.byt.length cb, .slice al v.lst.length cl] 74 (0, 0)) := by rw [hwb]; exact heap_alloc_new w _
  have st : Sem.run P (storeCells ⟨w.heap.size + 1, 0, none⟩ (entC default) 0) (wb.alloc (.cells (entC default).toArray 50 (0, 0))) = .ok () (wb.alloc (.cells (entC default).toArray 50 (0, 0))) := by
    have := stores_new (P := P) (w := wb) (t := 50) (old := entC default) (new := entC default) rfl (entC_one _)
    rw [hzb] at this; exact this
  obtain ⟨wx, hwx⟩ : ∃ wx, wx = wb.alloc (.cells (entC default).toArray 50 (0, 0)) := ⟨_, rfl⟩
  have hx : wx.heap[w.heap.size + 1]? = some (.cells (entC default).toArray 50 (0, 0)) := by rw [hwx, ← hzb]; exact heap_alloc_new wb _
  have hx0 : wx.heap[w.heap.size]? = some (.cells #[.int .i64 v.tag, .int .u64 (v.num : Int), .slice ab v.byt.length cb, .slice al v.lst.length cl] 74 (0, 0)) := by rw [hwx, heap_alloc_old _ _ (by omega)]; exact hbox
  have la : Sem.run P (loadCellsFrom ⟨w.heap.size + 1, 0, none⟩ 0 k #[]) wx = .ok (entC default).toArray wx := by rw [L.hk]; exact load_box hx
  have k0 := cell_of_heap hx0 0
  have k1 := cell_of_heap hx0 1
  have k2 := cell_of_heap hx0 2
  have k3 := cell_of_heap hx0 3
  simp at k0 k1 k2 k3
  have hB : Below w.heap.size w wx := by rw [hwx, hwb]; exact ((Below.refl _ _).alloc (Nat.le_refl _) _).alloc (by simp) _
  have nX : (entC default).length = k := by rw [L.hk]; exact entC_length _
  have HX := hid hx
  have HB := hid hB
  have HN := hid hN
  have HZ1 := hid (entC_one default)
  have HW := hid (hwx.trans (by rw [hwb]) : wx = (w.alloc (.cells #[.int .i64 v.tag, .int .u64 (v.num : Int), .slice ab v.byt.length cb, .slice al v.lst.length cl] 74 (0, 0))).alloc (.cells (entC default).toArray 50 (0, 0)))
  obtain ⟨bl, off, rfl, hbl, _, hcl⟩ := h4.resolve_left (by omega)
  obtain ⟨xa, xc, xa', xc', m0, m1, m2, m3, hbs⟩ := elem_cells hch hcl hbl hB ha
  rw [HW.out] at la k0 k1 k2 k3 m0 m1 m2 m3
  rw [ht, hlen] at m0 m1 m2 m3
  simp only [Nat.zero_mul, Nat.add_zero] at m0 m1 m2 m3
  rw [hwb] at st
  clear hx hx0 hbox hB hN h4 hb2 hch hwx hzb hwb hcl hbs
  have hw2 := HW.out
  rw [ht, hlen] at hw2 la st k0 k3
  have HW2 := hid hw2
  clear hw2 HW
  by_cases ha2 : a.tag = 2
  · have hq : ¬ ((a.byt.length : Int) = 32) := fun h => hbad ⟨ha2, by omega⟩
    have hd : decide ((a.byt.length : Int) = 32) = false := decide_eq_false hq
    rw [ha2] at m0
    generalize entC default = Z at *
    go_enter K.f_segEntry, Try.ntmps28
    go_wp2
    have := HX.out
    rw [HW2.out] at this
    refine bodyPost_ret (results_ct rfl _ _ (w.heap.size + 1) _ _ _ _ rfl this L.u_tEnt rfl (by simpa [nX, L.hk] using iE)) rfl ⟨Z, by rw [nX, L.hk], by rw [HN.out]; rfl, (fun e h => by rw [HN.out] at h; cases h), by rw [← HW2.out]; exact HB.out, HZ1.out⟩
  · have hd : decide (a.tag = 2) = false := decide_eq_false ha2
    generalize entC default = Z at *
    go_enter K.f_segEntry, Try.ntmps28
    go_wp2
    have := HX.out
    rw [HW2.out] at this
    refine bodyPost_ret (results_ct rfl _ _ (w.heap.size + 1) _ _ _ _ rfl this L.u_tEnt rfl (by simpa [nX, L.hk] using iE)) rfl ⟨Z, by rw [nX, L.hk], by rw [HN.out]; rfl, (fun e h => by rw [HN.out] at h; cases h), by rw [← HW2.out]; exact HB.out, HZ1.out⟩
end Go.Proofs.Ytpomfegcifpfkaa
/- segment's entry, walked whole. -/
namespace Go.Proofs.Ytpomfegcifpfkaa
open Go Go.RowKit Go.Sort
variable {P : Program} {k h : Nat}
/-- The number of a list's element, if it is among those that were read. -/
def numX (l : List TV) (j i : Nat) : Int := if j < i then (((l[j + 1]?).map TV.num).getD 0 : Nat) else 0
/-- An entry's cells, when so many of its numbers are there. -/
def entX (Y : List Value) (l : List TV) (i : Nat) : List Value := Y ++ [.int .i64 (numX l 0 i), .int .i64 (numX l 1 i), .int .i64 (numX l 2 i)]
theorem entX_len {Y : List Value} (h : Y.length = 32) (l : List TV) (i : Nat) : (entX Y l i).length = 35 := by unfold entX; simp [h]
theorem idx_pp (K : SK P) (p0 p1 p2 : Value) (w : World) : (Instr.index 120 (.agg #[p0, p1, p2]) (.int .i64 0)).run P w = .ok p0 w ∧ (Instr.index 120 (.agg #[p0, p1, p2]) (.int .i64 1)).run P w = .ok p1 w ∧ (Instr.index 120 (.agg #[p0, p1, p2]) (.int .i64 2)).run P w = .ok p2 w := by
  refine ⟨?_, ?_, ?_⟩ <;> simp [Instr.index, asIntOf, Sem.run_bind, Sem.run_pure, Result.andThen_ok, K.r_tArrP, part, K.a_tPInt, K.z_tPInt]
theorem setCell_same {w : World} {b t s : Nat} {cs : Array Value} {v : Value} (hb : w.heap[b]? = some (.cells cs t (0, 0))) (hv : cs[s]? = some v) : w.setCell ⟨b, s, none⟩ v = w := by
  obtain ⟨h, tp, dr, os, ou⟩ := w
  simp only [World.setCell] at hb ⊢
  congr 1
  refine Array.ext (by simp) fun i h1 h2 => ?_
  rw [Array.getElem_modify]
  split
  · rename_i e
    subst e
    have hg : h[b] = .cells cs t (0, 0) := by
      rw [Array.getElem?_eq_getElem h2] at hb
      exact Option.some.inj hb
    rw [hg]
    simp only [Option.isSome_none]
    have : cs.setIfInBounds s v = cs := by
      refine Array.ext (by simp) fun j g1 g2 => ?_
      rw [Array.getElem_setIfInBounds]
      · split
        · rename_i e; subst e
          rw [Array.getElem?_eq_getElem g2] at hv
          exact (Option.some.inj hv).symm
        · rfl
    simp [this]
  · rfl
theorem entX_one {Y : List Value} (h : ∀ u ∈ Y, u.oneCell' = true) (l : List TV) (i : Nat) : ∀ u ∈ entX Y l i, u.oneCell' = true := by
  intro u hu
  unfold entX at hu
  rcases List.mem_append.1 hu with hu | hu
  · exact h u hu
  · simp only [List.mem_cons, List.not_mem_nil, or_false] at hu
    rcases hu with rfl | rfl | rfl <;> rfl
/-- A row is laid where it lies. -/
theorem stores_same {P : Program} {w : World} {b t : Nat} {cs : List Value} (hb : w.heap[b]? = some (.cells cs.toArray t (0, 0))) (h1 : ∀ u ∈ cs, u.oneCell' = true) :
    Sem.run P (storeCells ⟨b, 0, none⟩ cs 0) w = .ok () w := by
  have hH : Holds id w b 0 cs.toArray := fun i hi => by
    have hi' : i < cs.length := by simpa using hi
    refine ⟨?_, frozen_of_row w _ _ _ _ hb⟩
    rw [Nat.zero_add, cell_of_heap hb]
    simp [hi']
  have h3 := stores_of_holds P hH 0 cs (by simp) h1
  rw [Nat.zero_add] at h3
  rw [h3]
  congr 1
  have h2 : ∀ (l : List Value) (s : Nat), (∀ j x, l[j]? = some x → cs[s + j]? = some x) → w.setCells b s l = w := by
    intro l
    induction l with
    | nil => intro s _; rfl
    | cons v l ih =>
      intro s hs
      have hv : cs[s]? = some v := hs 0 v rfl
      have e1 : w.setCell ⟨b, s, none⟩ v = w := setCell_same hb (by simpa using hv)
      rw [World.setCells, e1]
      exact ih (s + 1) fun j x hx => by
        have := hs (j + 1) x (by simpa using hx)
        rw [show s + 1 + j = s + (j + 1) by omega]; exact this
  exact h2 cs 0 fun j x hx => by rw [Nat.zero_add]; exact hx
theorem entX_at {Y : List Value} (h : Y.length = 32) {l : List TV} (i : Nat) (hi : i < 3) : (entX Y l i).toArray[32 + i]? = some (.int .i64 0) := by
  unfold entX
  rw [List.getElem?_toArray, List.getElem?_append_right (by omega), h, Nat.add_sub_cancel_left]
  obtain rfl | rfl | rfl : i = 0 ∨ i = 1 ∨ i = 2 := by omega
  all_goals simp [numX]
theorem entX_set {Y : List Value} (h : Y.length = 32) {l : List TV} (i : Nat) (hi : i < 3) {x : TV} (hx : l[i + 1]? = some x) :
    (entX Y l i).toArray.setIfInBounds (32 + i) (.int .i64 x.num) = (entX Y l (i + 1)).toArray := by
  unfold entX
  rw [List.setIfInBounds_toArray, List.set_append_right _ _ (by omega), h, Nat.add_sub_cancel_left]
  obtain rfl | rfl | rfl : i = 0 ∨ i = 1 ∨ i = 2 := by omega
  all_goals simp at hx; simp [numX, hx]
theorem entryF_num {v : TV} {i : Nat} (hi : i < 3) {x : TV} (hx : v.lst[i + 1]? = some x) (h : ¬ (x.tag = 1 ∧ x.num ≤ 999999)) : entryF v = none := by
  have hp : placeF x = none := by unfold placeF; rw [if_neg h]
  unfold entryF
  split
  · rename_i a p q r hl
    rw [hl] at hx
    split
    · obtain rfl | rfl | rfl : i = 0 ∨ i = 1 ∨ i = 2 := by omega
      · simp at hx; subst hx; rw [hp]; rfl
      · simp at hx; subst hx; rw [hp]; cases placeF p <;> rfl
      · simp at hx; subst hx; rw [hp]; cases placeF p <;> cases placeF q <;> rfl
    · rfl
  · rfl
theorem entryF_good {v a : TV} (ht : v.tag = 3) (ha : v.lst[0]? = some a) (ha2 : a.tag = 2) (ha32 : a.byt.length = 32) (hlen : v.lst.length = 4) (h : ∀ j, j < 3 → ∃ x, v.lst[j + 1]? = some x ∧ x.tag = 1 ∧ x.num ≤ 999999) :
    ∃ e, entryF v = some e ∧ entX (bcells a.byt) v.lst 3 = entC e := by
  obtain ⟨x, hx, x1, x2⟩ := h 0 (by omega)
  obtain ⟨y, hy, y1, y2⟩ := h 1 (by omega)
  obtain ⟨z, hz, z1, z2⟩ := h 2 (by omega)
  have hl : v.lst = [a, x, y, z] := by
    apply List.ext_getElem?
    intro i
    by_cases hi : i < 4
    · obtain rfl | rfl | rfl | rfl : i = 0 ∨ i = 1 ∨ i = 2 ∨ i = 3 := by omega
      · exact ha
      · exact hx
      · exact hy
      · exact hz
    · rw [List.getElem?_eq_none (by omega), List.getElem?_eq_none (by simp; omega)]
  refine ⟨⟨⟨a.byt, ha32⟩, x.num, y.num, z.num⟩, ?_, ?_⟩
  · unfold entryF
    rw [hl]
    simp only
    rw [dif_pos ⟨ht, ha2, ha32⟩]
    unfold placeF
    rw [if_pos ⟨x1, x2⟩, if_pos ⟨y1, y2⟩, if_pos ⟨z1, z2⟩]
    rfl
  · unfold entX entC numX
    rw [hl]
    simp
set_option maxHeartbeats 4000000 in
set_option maxRecDepth 100000 in
theorem entry_good (L : SG P k h) (K : SK P) {S : Nat → Prop} (iE : (P.info? 50).map (·.size) = some 35) (iB : (P.info? 5).map (·.size) = some 1) (w : World) (v : TV) (c0 c1 c2 c3 : Value) (hv : TVr S w v [c0, c1, c2, c3]) (ht : v.tag = 3) (hlen : v.lst.length = 4) (a : TV) (ha : v.lst[0]? = some a) (ha2 : a.tag = 2) (ha32 : a.byt.length = 32) :
    Calls P 28 #[.agg #[c0, c1, c2, c3]] w (EntryPost w v) := by
  obtain ⟨_, vb, vl, ks, he, hb, hr, hch⟩ := hv.cells
  obtain ⟨ab, cb, rfl, hb2⟩ := hb
  obtain ⟨_, al, cl, rfl, ⟨hl1, hl2, hl3⟩, _, h4⟩ := hr
  simp only [List.cons.injEq, and_true] at he
  obtain ⟨rfl, rfl, rfl, rfl⟩ := he
  have u_tUnit := L.u_tUnit; have r_tUnit := L.r_tUnit; have a_tUnit := L.a_tUnit; have z_tUnit := L.z_tUnit; have v_tUnit := L.v_tUnit; have u_tInt := L.u_tInt; have r_tInt := L.r_tInt; have a_tInt := L.a_tInt; have z_tInt := L.z_tInt; have v_tInt := L.v_tInt; have u_tBool := L.u_tBool; have r_tBool := L.r_tBool; have a_tBool := L.a_tBool; have z_tBool := L.z_tBool; have v_tBool := L.v_tBool; have u_tEnt := L.u_tEnt; have r_tEnt := L.r_tEnt; have a_tEnt := L.a_tEnt; have z_tEnt := L.z_tEnt; have v_tEnt := L.v_tEnt; have u_tHash := L.u_tHash; have r_tHash := L.r_tHash; have a_tHash := L.a_tHash; have z_tHash := L.z_tHash; have v_tHash := L.v_tHash; have u_tWhere := L.u_tWhere; have r_tWhere := L.r_tWhere; have a_tWhere := L.a_tWhere; have z_tWhere := L.z_tWhere; have v_tWhere := L.v_tWhere; have u_tByte := L.u_tByte; have r_tByte := L.r_tByte; have a_tByte := L.a_tByte; have z_tByte := L.z_tByte; have v_tByte := L.v_tByte; have u_tBytes := L.u_tBytes; have r_tBytes := L.r_tBytes; have a_tBytes := L.a_tBytes; have z_tBytes := L.z_tBytes; have v_tBytes := L.v_tBytes
  have u_tVal := K.u_tVal; have r_tVal := K.r_tVal; have a_tVal := K.a_tVal; have z_tVal := K.z_tVal; have v_tVal := K.v_tVal; have u_tVals := K.u_tVals; have r_tVals := K.r_tVals; have a_tVals := K.a_tVals; have z_tVals := K.z_tVals; have v_tVals := K.v_tVals; have u_tU64 := K.u_tU64; have r_tU64 := K.r_tU64; have a_tU64 := K.a_tU64; have z_tU64 := K.z_tU64; have v_tU64 := K.v_tU64; have u_tPInt := K.u_tPInt; have r_tPInt := K.r_tPInt; have a_tPInt := K.a_tPInt; have z_tPInt := K.z_tPInt; have v_tPInt := K.v_tPInt; have u_tArrP := K.u_tArrP; have r_tArrP := K.r_tArrP; have a_tArrP := K.a_tArrP; have z_tArrP := K.z_tArrP; have v_tArrP := K.v_tArrP
  have mixed := L.mixed
  obtain ⟨wb, hwb⟩ : ∃ wb, wb = w.alloc (.cells #[.int .i64 v.tag, .int .u64 (v.num : Int), .slice ab v.byt.length cb, .slice al v.lst.length cl] 74 (0, 0)) := ⟨_, rfl⟩
  have hzb : wb.heap.size = w.heap.size + 1 := by rw [hwb]; simp
  have hbox : wb.heap[w.heap.size]? = some (.cells #[.int .i64 v.tag, .int .u64 (v.num : Int), .slice ab v.byt.length cb, .slice al v.lst.length cl] 74 (0, 0)) := by rw [hwb]; exact heap_alloc_new w _
  have st : Sem.run P (storeCells ⟨w.heap.size + 1, 0, none⟩ (entC default) 0) (wb.alloc (.cells (entC default).toArray 50 (0, 0))) = .ok () (wb.alloc (.cells (entC default).toArray 50 (0, 0))) := by
    have := stores_new (P := P) (w := wb) (t := 50) (old := entC default) (new := entC default) rfl (entC_one _)
    rw [hzb] at this; exact this
  obtain ⟨wx, hwx⟩ : ∃ wx, wx = wb.alloc (.cells (entC default).toArray 50 (0, 0)) := ⟨_, rfl⟩
  have hx : wx.heap[w.heap.size + 1]? = some (.cells (entC default).toArray 50 (0, 0)) := by rw [hwx, ← hzb]; exact heap_alloc_new wb _
  have hx0 : wx.heap[w.heap.size]? = some (.cells #[.int .i64 v.tag, .int .u64 (v.num : Int), .slice ab v.byt.length cb, .slice al v.lst.length cl] 74 (0, 0)) := by rw [hwx, heap_alloc_old _ _ (by omega)]; exact hbox
  have la : Sem.run P (loadCellsFrom ⟨w.heap.size + 1, 0, none⟩ 0 k #[]) wx = .ok (entC default).toArray wx := by rw [L.hk]; exact load_box hx
  have k0 := cell_of_heap hx0 0
  have k1 := cell_of_heap hx0 1
  have k2 := cell_of_heap hx0 2
  have k3 := cell_of_heap hx0 3
  simp at k0 k1 k2 k3
  have hB : Below w.heap.size w wx := by rw [hwx, hwb]; exact ((Below.refl _ _).alloc (Nat.le_refl _) _).alloc (by simp) _
  have nX : (entC default).length = k := by rw [L.hk]; exact entC_length _
  have HX := hid hx
  have HB := hid hB
  have HX0 := hid hx0
  have HW := hid (hwx.trans (by rw [hwb]) : wx = (w.alloc (.cells #[.int .i64 v.tag, .int .u64 (v.num : Int), .slice ab v.byt.length cb, .slice al v.lst.length cl] 74 (0, 0))).alloc (.cells (entC default).toArray 50 (0, 0)))
  obtain ⟨bl, off, rfl, hbl, _, hcl⟩ := h4.resolve_left (by omega)
  obtain ⟨xa, xc, xa', xc', m0, m1, m2, m3, hbs⟩ := elem_cells hch hcl hbl hB ha
  rw [HW.out] at la k0 k1 k2 k3 m0 m1 m2 m3
  rw [ht, hlen] at m0 m1 m2 m3
  simp only [Nat.zero_mul, Nat.add_zero] at m0 m1 m2 m3
  rw [hwb] at st
  have HCH := hid hch
  have HCL := hid hcl
  clear hx hx0 hbox hB h4 hb2 hch hcl hwx hzb hwb
  have hw2 := HW.out
  rw [ht, hlen] at hw2 la st k0 k3
  have HW2 := hid hw2
  clear hw2 HW
  rw [ha2] at m0
  rw [ha32] at m2
  have hone : ∀ u ∈ bcells a.byt, u.oneCell' = true := bcells_one _
  have hZd : (entC default).drop 32 = [.int .i64 0, .int .i64 0, .int .i64 0] := by
    unfold entC; rw [List.drop_left' (by rw [bcells_length]; exact (default : Ent).nm.2)]; rfl
  have HZD := hid hZd
  clear hZd
  have hcn : (bcells a.byt).length = 32 := by rw [bcells_length, ha32]
  have hZ : 0 + (bcells a.byt).length ≤ (entC default).length := by rw [hcn, entC_length]; omega
  generalize entC default = Z at *
  go_enter K.f_segEntry, Try.ntmps28
  go_wp2
  rw [← HW2.out] at la k3 m2 ⊢
  obtain ⟨xa0, xc0, hxe, _, _, hbs2⟩ := hbs
  rw [ha32] at hxe
  injection hxe with e1 e2 e3
  subst e1 e3
  obtain ⟨ba, oa, rfl, hba, _, hca⟩ := hbs2.resolve_left (fun h => by rw [h] at ha32; simp at ha32)
  have hsrc : ∀ j x, (bcells a.byt)[j]? = some x → wx.drew.cell? ((⟨ba, oa, none⟩ : Addr).add j) = some x := fun j x hx => by
    have hadd : (⟨ba, oa, none⟩ : Addr).add j = ⟨ba, oa + j, none⟩ := by unfold Addr.add; split <;> simp_all
    rw [hadd]
    unfold bcells at hx
    rw [List.getElem?_map, Option.map_eq_some_iff] at hx
    obtain ⟨y, hy, rfl⟩ := hx
    exact (HB.out.drew.cell (p := ⟨ba, oa + j, none⟩) hba).trans (hca j y hy)
  have HSRC := hid hsrc
  clear hsrc hca hbs2
  have hhZ : h = 32 := L.hh
  subst hhZ
  have HGD := hid (entryF_good ht ha ha2 ha32 hlen)
  generalize bcells a.byt = Y at *
  go_region_law_o ((refine step_copy_splice rfl (.tmp 35) (.tmp 40) 23 23 rfl 5 u_tBytes iB (some ⟨w.heap.size + 1, 0, none⟩) (some ⟨ba, oa, none⟩) 32 32 32 xc rfl rfl (w.heap.size + 1) 0 Z 50 HX.out Y (by rw [hcn]; rfl) (fun _ => ⟨rfl, _, rfl, HSRC.out⟩) hZ hone (w.heap.size + 1) wx ((Below.refl _ _).drew) (by omega) ?_; intro w4 hg4 hb4))
  have hsp : splice Z 0 Y = Y ++ [.int .i64 0, .int .i64 0, .int .i64 0] := by unfold splice; rw [hcn, ← HZD.out]; simp
  rw [hsp] at hg4
  have HG4 := hid hg4.out
  have HB4 := hid hb4
  clear hg4 hb4 hsp la st k0 k1 k2 k3 m0 m1 m2 m3
  go_wp2
  have hwxz : w.heap.size + 1 < wx.heap.size := lt_of_heap HX.out
  have hYl : Y.length = 32 := hcn
  have hY1 := hone
  go_loopg [49] 3 (fun kx s49 wr => ∃ i : Nat, s49 = .int .i64 i ∧ i ≤ 3 ∧ 3 - i ≤ kx ∧ Hid (Below (w.heap.size + 1) wx wr) ∧ Hid (wr.heap[w.heap.size + 1]? = some (.cells (entX Y v.lst i).toArray 50 (0, 0))) ∧ Hid (∀ j, j < i → ∃ x, v.lst[j + 1]? = some x ∧ x.tag = 1 ∧ x.num ≤ 999999))
  case atStart => exact ⟨0, rfl, by omega, by omega, HB4, HG4, hid (fun j hj => by omega)⟩
  case round =>
    obtain ⟨i, rfl, hi, hkx, HBR, HGR, HAL⟩ := hrel
    have ix0 := fun p0 p1 p2 w => (idx_pp K p0 p1 p2 w).1
    have ix1 := fun p0 p1 p2 w => (idx_pp K p0 p1 p2 w).2.1
    have ix2 := fun p0 p1 p2 w => (idx_pp K p0 p1 p2 w).2.2
    by_cases hlt : i < 3
    · obtain rfl | rfl | rfl : i = 0 ∨ i = 1 ∨ i = 2 := by omega
      · skip
        have hB4 := HB.out.trans (HBR.out.mono (by omega))
        obtain ⟨x, hx⟩ : ∃ x, v.lst[0 + 1]? = some x := ⟨v.lst[0 + 1], by simp [hlen]⟩
        obtain ⟨ya, yc, ya', yc', n0, n1, n2, n3, _⟩ := elem_cells HCH.out HCL.out hbl hB4 hx
        simp only [Nat.reduceAdd, Nat.reduceMul, Nat.add_assoc] at n0 n1 n2 n3
        have hb0 := HBR.out.block w.heap.size (by omega)
        have q3 : wr.cell? ⟨w.heap.size, 3, none⟩ = some (.slice (some ⟨bl, off, none⟩) 4 cl) := by
          have h9 := cell_of_heap (hb0.trans HX0.out) 3
          rw [hlen] at h9
          exact h9
        have c0 : wr.cell? ⟨w.heap.size + 1, 32 + 0, none⟩ = some (.int .i64 0) := (cell_of_heap HGR.out _).trans (entX_at hYl 0 (by omega))
        have f0 : wr.frozen? ⟨w.heap.size + 1, 32 + 0, none⟩ = false := frozen_of_row wr _ _ _ _ HGR.out
        simp only [Nat.reduceAdd] at c0 f0
        have hsz : w.heap.size + 1 < wr.heap.size := lt_of_heap HGR.out
        have HXX := hid hx
        clear hx hb0 hB4
        have lx : ∀ W : World, Below wr.heap.size wr W → Sem.run P (loadCellsFrom ⟨w.heap.size + 1, 0, none⟩ 0 k #[]) W = .ok (entX Y v.lst 0).toArray W := fun W hW => by
          rw [L.hk]
          refine run_loadCellsFrom_list P W ⟨w.heap.size + 1, 0, none⟩ (entX Y v.lst 0) 35 (entX_len hYl _ _) (fun j u hu => ?_)
          have hadd : (⟨w.heap.size + 1, 0, none⟩ : Addr).add j = ⟨w.heap.size + 1, j, none⟩ := by unfold Addr.add; split <;> simp_all
          rw [hadd, cell_of_heap ((hW.block _ hsz).trans HGR.out)]
          simpa using hu
        have sx : ∀ W : World, Below wr.heap.size wr W → Sem.run P (storeCells ⟨w.heap.size + 1, 0, none⟩ (entX Y v.lst 0) 0) W = .ok () W := fun W hW =>
          stores_same ((hW.block _ hsz).trans HGR.out) (entX_one hY1 _ _)
        have HE1 := hid (entX_one hY1 v.lst 0)
        have nE : (entX Y v.lst 0).length = k := by rw [L.hk]; exact entX_len hYl _ _
        by_cases ht1 : x.tag = 1
        · rw [ht1] at n0
          by_cases hnm : x.num ≤ 999999
          · have hd1 : decide ((999999 : Int) < (x.num : Int)) = false := by simp; omega
            have g0 : (0 : Int) ≤ (x.num : Int) := by omega
            have g1 : (x.num : Int) ≤ 999999 := by omega
            clear lx sx nE
            go_wp2
            go_roundg (3 - (0 + 1))
            case measure => omega
            case rel =>
              refine ⟨0 + 1, by go_num, by omega, by omega, hid ?_, hid ?_, hid ?_⟩
              · exact (HBR.out.setCell (Nat.le_refl _) _).alloc (by simp [World.setCell]; omega) _
              · have h9 := heap_store HGR.out (32 + 0) (.int .i64 x.num)
                rw [entX_set hYl 0 (by omega) HXX.out] at h9
                exact (heap_alloc_old _ _ (by simp [World.setCell]; omega)).trans h9
              · intro j hj
                by_cases hji : j < 0
                · exact HAL.out j hji
                · obtain rfl : j = 0 := by omega
                  exact ⟨x, HXX.out, ht1, hnm⟩
          · have hd1 : decide ((999999 : Int) < (x.num : Int)) = true := by simp; omega
            have HN := hid (entryF_num (i := 0) (by omega) HXX.out (fun h => hnm h.2))
            have l1 := lx _ ((Below.refl wr.heap.size wr).alloc (Nat.le_refl _) (.cells #[.int .i64 1, .int .u64 (x.num : Int), .slice ya x.byt.length yc, .slice ya' x.lst.length yc'] 74 (0, 0)))
            have s1 := sx _ ((Below.refl wr.heap.size wr).alloc (Nat.le_refl _) (.cells #[.int .i64 1, .int .u64 (x.num : Int), .slice ya x.byt.length yc, .slice ya' x.lst.length yc'] 74 (0, 0)))
            have HH := hid (show (wr.alloc (.cells #[.int .i64 1, .int .u64 (x.num : Int), .slice ya x.byt.length yc, .slice ya' x.lst.length yc'] 74 (0, 0))).heap[w.heap.size + 1]? = some (.cells (entX Y v.lst 0).toArray 50 (0, 0)) from (heap_alloc_old _ _ hsz).trans HGR.out)
            clear lx sx
            generalize entX Y v.lst 0 = X at *
            go_wp2
            refine bodyPost_ret (results_ct rfl _ _ (w.heap.size + 1) _ _ _ _ rfl HH.out L.u_tEnt rfl (by simpa [nE, L.hk] using iE)) rfl ⟨X, by rw [nE, L.hk], by rw [HN.out]; rfl, (fun e h => by rw [HN.out] at h; cases h), ?_, HE1.out⟩
            exact (HB.out.trans (HBR.out.mono (by omega))).alloc (by omega) _
        · have hd0 : decide (x.tag = 1) = false := decide_eq_false ht1
          have HN := hid (entryF_num (i := 0) (by omega) HXX.out (fun h => ht1 h.1))
          have l1 := lx _ ((Below.refl wr.heap.size wr).alloc (Nat.le_refl _) (.cells #[.int .i64 x.tag, .int .u64 (x.num : Int), .slice ya x.byt.length yc, .slice ya' x.lst.length yc'] 74 (0, 0)))
          have s1 := sx _ ((Below.refl wr.heap.size wr).alloc (Nat.le_refl _) (.cells #[.int .i64 x.tag, .int .u64 (x.num : Int), .slice ya x.byt.length yc, .slice ya' x.lst.length yc'] 74 (0, 0)))
          have HH := hid (show (wr.alloc (.cells #[.int .i64 x.tag, .int .u64 (x.num : Int), .slice ya x.byt.length yc, .slice ya' x.lst.length yc'] 74 (0, 0))).heap[w.heap.size + 1]? = some (.cells (entX Y v.lst 0).toArray 50 (0, 0)) from (heap_alloc_old _ _ hsz).trans HGR.out)
          clear lx sx
          generalize entX Y v.lst 0 = X at *
          go_wp2
          refine bodyPost_ret (results_ct rfl _ _ (w.heap.size + 1) _ _ _ _ rfl HH.out L.u_tEnt rfl (by simpa [nE, L.hk] using iE)) rfl ⟨X, by rw [nE, L.hk], by rw [HN.out]; rfl, (fun e h => by rw [HN.out] at h; cases h), ?_, HE1.out⟩
          exact (HB.out.trans (HBR.out.mono (by omega))).alloc (by omega) _
      · skip
        have hB4 := HB.out.trans (HBR.out.mono (by omega))
        obtain ⟨x, hx⟩ : ∃ x, v.lst[1 + 1]? = some x := ⟨v.lst[1 + 1], by simp [hlen]⟩
        obtain ⟨ya, yc, ya', yc', n0, n1, n2, n3, _⟩ := elem_cells HCH.out HCL.out hbl hB4 hx
        simp only [Nat.reduceAdd, Nat.reduceMul, Nat.add_assoc] at n0 n1 n2 n3
        have hb0 := HBR.out.block w.heap.size (by omega)
        have q3 : wr.cell? ⟨w.heap.size, 3, none⟩ = some (.slice (some ⟨bl, off, none⟩) 4 cl) := by
          have h9 := cell_of_heap (hb0.trans HX0.out) 3
          rw [hlen] at h9
          exact h9
        have c0 : wr.cell? ⟨w.heap.size + 1, 32 + 1, none⟩ = some (.int .i64 0) := (cell_of_heap HGR.out _).trans (entX_at hYl 1 (by omega))
        have f0 : wr.frozen? ⟨w.heap.size + 1, 32 + 1, none⟩ = false := frozen_of_row wr _ _ _ _ HGR.out
        simp only [Nat.reduceAdd] at c0 f0
        have hsz : w.heap.size + 1 < wr.heap.size := lt_of_heap HGR.out
        have HXX := hid hx
        clear hx hb0 hB4
        have lx : ∀ W : World, Below wr.heap.size wr W → Sem.run P (loadCellsFrom ⟨w.heap.size + 1, 0, none⟩ 0 k #[]) W = .ok (entX Y v.lst 1).toArray W := fun W hW => by
          rw [L.hk]
          refine run_loadCellsFrom_list P W ⟨w.heap.size + 1, 0, none⟩ (entX Y v.lst 1) 35 (entX_len hYl _ _) (fun j u hu => ?_)
          have hadd : (⟨w.heap.size + 1, 0, none⟩ : Addr).add j = ⟨w.heap.size + 1, j, none⟩ := by unfold Addr.add; split <;> simp_all
          rw [hadd, cell_of_heap ((hW.block _ hsz).trans HGR.out)]
          simpa using hu
        have sx : ∀ W : World, Below wr.heap.size wr W → Sem.run P (storeCells ⟨w.heap.size + 1, 0, none⟩ (entX Y v.lst 1) 0) W = .ok () W := fun W hW =>
          stores_same ((hW.block _ hsz).trans HGR.out) (entX_one hY1 _ _)
        have HE1 := hid (entX_one hY1 v.lst 1)
        have nE : (entX Y v.lst 1).length = k := by rw [L.hk]; exact entX_len hYl _ _
        by_cases ht1 : x.tag = 1
        · rw [ht1] at n0
          by_cases hnm : x.num ≤ 999999
          · have hd1 : decide ((999999 : Int) < (x.num : Int)) = false := by simp; omega
            have g0 : (0 : Int) ≤ (x.num : Int) := by omega
            have g1 : (x.num : Int) ≤ 999999 := by omega
            clear lx sx nE
            go_wp2
            go_roundg (3 - (1 + 1))
            case measure => omega
            case rel =>
              refine ⟨1 + 1, by go_num, by omega, by omega, hid ?_, hid ?_, hid ?_⟩
              · exact (HBR.out.setCell (Nat.le_refl _) _).alloc (by simp [World.setCell]; omega) _
              · have h9 := heap_store HGR.out (32 + 1) (.int .i64 x.num)
                rw [entX_set hYl 1 (by omega) HXX.out] at h9
                exact (heap_alloc_old _ _ (by simp [World.setCell]; omega)).trans h9
              · intro j hj
                by_cases hji : j < 1
                · exact HAL.out j hji
                · obtain rfl : j = 1 := by omega
                  exact ⟨x, HXX.out, ht1, hnm⟩
          · have hd1 : decide ((999999 : Int) < (x.num : Int)) = true := by simp; omega
            have HN := hid (entryF_num (i := 1) (by omega) HXX.out (fun h => hnm h.2))
            have l1 := lx _ ((Below.refl wr.heap.size wr).alloc (Nat.le_refl _) (.cells #[.int .i64 1, .int .u64 (x.num : Int), .slice ya x.byt.length yc, .slice ya' x.lst.length yc'] 74 (0, 0)))
            have s1 := sx _ ((Below.refl wr.heap.size wr).alloc (Nat.le_refl _) (.cells #[.int .i64 1, .int .u64 (x.num : Int), .slice ya x.byt.length yc, .slice ya' x.lst.length yc'] 74 (0, 0)))
            have HH := hid (show (wr.alloc (.cells #[.int .i64 1, .int .u64 (x.num : Int), .slice ya x.byt.length yc, .slice ya' x.lst.length yc'] 74 (0, 0))).heap[w.heap.size + 1]? = some (.cells (entX Y v.lst 1).toArray 50 (0, 0)) from (heap_alloc_old _ _ hsz).trans HGR.out)
            clear lx sx
            generalize entX Y v.lst 1 = X at *
            go_wp2
            refine bodyPost_ret (results_ct rfl _ _ (w.heap.size + 1) _ _ _ _ rfl HH.out L.u_tEnt rfl (by simpa [nE, L.hk] using iE)) rfl ⟨X, by rw [nE, L.hk], by rw [HN.out]; rfl, (fun e h => by rw [HN.out] at h; cases h), ?_, HE1.out⟩
            exact (HB.out.trans (HBR.out.mono (by omega))).alloc (by omega) _
        · have hd0 : decide (x.tag = 1) = false := decide_eq_false ht1
          have HN := hid (entryF_num (i := 1) (by omega) HXX.out (fun h => ht1 h.1))
          have l1 := lx _ ((Below.refl wr.heap.size wr).alloc (Nat.le_refl _) (.cells #[.int .i64 x.tag, .int .u64 (x.num : Int), .slice ya x.byt.length yc, .slice ya' x.lst.length yc'] 74 (0, 0)))
          have s1 := sx _ ((Below.refl wr.heap.size wr).alloc (Nat.le_refl _) (.cells #[.int .i64 x.tag, .int .u64 (x.num : Int), .slice ya x.byt.length yc, .slice ya' x.lst.length yc'] 74 (0, 0)))
          have HH := hid (show (wr.alloc (.cells #[.int .i64 x.tag, .int .u64 (x.num : Int), .slice ya x.byt.length yc, .slice ya' x.lst.length yc'] 74 (0, 0))).heap[w.heap.size + 1]? = some (.cells (entX Y v.lst 1).toArray 50 (0, 0)) from (heap_alloc_old _ _ hsz).trans HGR.out)
          clear lx sx
          generalize entX Y v.lst 1 = X at *
          go_wp2
          refine bodyPost_ret (results_ct rfl _ _ (w.heap.size + 1) _ _ _ _ rfl HH.out L.u_tEnt rfl (by simpa [nE, L.hk] using iE)) rfl ⟨X, by rw [nE, L.hk], by rw [HN.out]; rfl, (fun e h => by rw [HN.out] at h; cases h), ?_, HE1.out⟩
          exact (HB.out.trans (HBR.out.mono (by omega))).alloc (by omega) _
      · skip
        have hB4 := HB.out.trans (HBR.out.mono (by omega))
        obtain ⟨x, hx⟩ : ∃ x, v.lst[2 + 1]? = some x := ⟨v.lst[2 + 1], by simp [hlen]⟩
        obtain ⟨ya, yc, ya', yc', n0, n1, n2, n3, _⟩ := elem_cells HCH.out HCL.out hbl hB4 hx
        simp only [Nat.reduceAdd, Nat.reduceMul, Nat.add_assoc] at n0 n1 n2 n3
        have hb0 := HBR.out.block w.heap.size (by omega)
        have q3 : wr.cell? ⟨w.heap.size, 3, none⟩ = some (.slice (some ⟨bl, off, none⟩) 4 cl) := by
          have h9 := cell_of_heap (hb0.trans HX0.out) 3
          rw [hlen] at h9
          exact h9
        have c0 : wr.cell? ⟨w.heap.size + 1, 32 + 2, none⟩ = some (.int .i64 0) := (cell_of_heap HGR.out _).trans (entX_at hYl 2 (by omega))
        have f0 : wr.frozen? ⟨w.heap.size + 1, 32 + 2, none⟩ = false := frozen_of_row wr _ _ _ _ HGR.out
        simp only [Nat.reduceAdd] at c0 f0
        have hsz : w.heap.size + 1 < wr.heap.size := lt_of_heap HGR.out
        have HXX := hid hx
        clear hx hb0 hB4
        have lx : ∀ W : World, Below wr.heap.size wr W → Sem.run P (loadCellsFrom ⟨w.heap.size + 1, 0, none⟩ 0 k #[]) W = .ok (entX Y v.lst 2).toArray W := fun W hW => by
          rw [L.hk]
          refine run_loadCellsFrom_list P W ⟨w.heap.size + 1, 0, none⟩ (entX Y v.lst 2) 35 (entX_len hYl _ _) (fun j u hu => ?_)
          have hadd : (⟨w.heap.size + 1, 0, none⟩ : Addr).add j = ⟨w.heap.size + 1, j, none⟩ := by unfold Addr.add; split <;> simp_all
          rw [hadd, cell_of_heap ((hW.block _ hsz).trans HGR.out)]
          simpa using hu
        have sx : ∀ W : World, Below wr.heap.size wr W → Sem.run P (storeCells ⟨w.heap.size + 1, 0, none⟩ (entX Y v.lst 2) 0) W = .ok () W := fun W hW =>
          stores_same ((hW.block _ hsz).trans HGR.out) (entX_one hY1 _ _)
        have HE1 := hid (entX_one hY1 v.lst 2)
        have nE : (entX Y v.lst 2).length = k := by rw [L.hk]; exact entX_len hYl _ _
        by_cases ht1 : x.tag = 1
        · rw [ht1] at n0
          by_cases hnm : x.num ≤ 999999
          · have hd1 : decide ((999999 : Int) < (x.num : Int)) = false := by simp; omega
            have g0 : (0 : Int) ≤ (x.num : Int) := by omega
            have g1 : (x.num : Int) ≤ 999999 := by omega
            clear lx sx nE
            go_wp2
            go_roundg (3 - (2 + 1))
            case measure => omega
            case rel =>
              refine ⟨2 + 1, by go_num, by omega, by omega, hid ?_, hid ?_, hid ?_⟩
              · exact (HBR.out.setCell (Nat.le_refl _) _).alloc (by simp [World.setCell]; omega) _
              · have h9 := heap_store HGR.out (32 + 2) (.int .i64 x.num)
                rw [entX_set hYl 2 (by omega) HXX.out] at h9
                exact (heap_alloc_old _ _ (by simp [World.setCell]; omega)).trans h9
              · intro j hj
                by_cases hji : j < 2
                · exact HAL.out j hji
                · obtain rfl : j = 2 := by omega
                  exact ⟨x, HXX.out, ht1, hnm⟩
          · have hd1 : decide ((999999 : Int) < (x.num : Int)) = true := by simp; omega
            have HN := hid (entryF_num (i := 2) (by omega) HXX.out (fun h => hnm h.2))
            have l1 := lx _ ((Below.refl wr.heap.size wr).alloc (Nat.le_refl _) (.cells #[.int .i64 1, .int .u64 (x.num : Int), .slice ya x.byt.length yc, .slice ya' x.lst.length yc'] 74 (0, 0)))
            have s1 := sx _ ((Below.refl wr.heap.size wr).alloc (Nat.le_refl _) (.cells #[.int .i64 1, .int .u64 (x.num : Int), .slice ya x.byt.length yc, .slice ya' x.lst.length yc'] 74 (0, 0)))
            have HH := hid (show (wr.alloc (.cells #[.int .i64 1, .int .u64 (x.num : Int), .slice ya x.byt.length yc, .slice ya' x.lst.length yc'] 74 (0, 0))).heap[w.heap.size + 1]? = some (.cells (entX Y v.lst 2).toArray 50 (0, 0)) from (heap_alloc_old _ _ hsz).trans HGR.out)
            clear lx sx
            generalize entX Y v.lst 2 = X at *
            go_wp2
            refine bodyPost_ret (results_ct rfl _ _ (w.heap.size + 1) _ _ _ _ rfl HH.out L.u_tEnt rfl (by simpa [nE, L.hk] using iE)) rfl ⟨X, by rw [nE, L.hk], by rw [HN.out]; rfl, (fun e h => by rw [HN.out] at h; cases h), ?_, HE1.out⟩
            exact (HB.out.trans (HBR.out.mono (by omega))).alloc (by omega) _
        · have hd0 : decide (x.tag = 1) = false := decide_eq_false ht1
          have HN := hid (entryF_num (i := 2) (by omega) HXX.out (fun h => ht1 h.1))
          have l1 := lx _ ((Below.refl wr.heap.size wr).alloc (Nat.le_refl _) (.cells #[.int .i64 x.tag, .int .u64 (x.num : Int), .slice ya x.byt.length yc, .slice ya' x.lst.length yc'] 74 (0, 0)))
          have s1 := sx _ ((Below.refl wr.heap.size wr).alloc (Nat.le_refl _) (.cells #[.int .i64 x.tag, .int .u64 (x.num : Int), .slice ya x.byt.length yc, .slice ya' x.lst.length yc'] 74 (0, 0)))
          have HH := hid (show (wr.alloc (.cells #[.int .i64 x.tag, .int .u64 (x.num : Int), .slice ya x.byt.length yc, .slice ya' x.lst.length yc'] 74 (0, 0))).heap[w.heap.size + 1]? = some (.cells (entX Y v.lst 2).toArray 50 (0, 0)) from (heap_alloc_old _ _ hsz).trans HGR.out)
          clear lx sx
          generalize entX Y v.lst 2 = X at *
          go_wp2
          refine bodyPost_ret (results_ct rfl _ _ (w.heap.size + 1) _ _ _ _ rfl HH.out L.u_tEnt rfl (by simpa [nE, L.hk] using iE)) rfl ⟨X, by rw [nE, L.hk], by rw [HN.out]; rfl, (fun e h => by rw [HN.out] at h; cases h), ?_, HE1.out⟩
          exact (HB.out.trans (HBR.out.mono (by omega))).alloc (by omega) _
    · obtain rfl : i = 3 := by omega
      obtain ⟨e, he, hX⟩ := HGD.out HAL.out
      have nE : (entX Y v.lst 3).length = k := by rw [L.hk]; exact entX_len hYl _ _
      have l1 : Sem.run P (loadCellsFrom ⟨w.heap.size + 1, 0, none⟩ 0 k #[]) wr = .ok (entX Y v.lst 3).toArray wr := by
        rw [L.hk]
        refine run_loadCellsFrom_list P wr ⟨w.heap.size + 1, 0, none⟩ (entX Y v.lst 3) 35 (entX_len hYl _ _) (fun j u hu => ?_)
        have hadd : (⟨w.heap.size + 1, 0, none⟩ : Addr).add j = ⟨w.heap.size + 1, j, none⟩ := by unfold Addr.add; split <;> simp_all
        rw [hadd, cell_of_heap HGR.out]
        simpa using hu
      have s1 : Sem.run P (storeCells ⟨w.heap.size + 1, 0, none⟩ (entX Y v.lst 3) 0) wr = .ok () wr := stores_same HGR.out (entX_one hY1 _ _)
      have HE1 := hid (entX_one hY1 v.lst 3)
      have HE := hid he
      have HXE := hid hX
      clear he hX
      generalize entX Y v.lst 3 = X at *
      go_wp2
      refine bodyPost_ret (results_ct rfl _ _ (w.heap.size + 1) _ _ _ _ rfl HGR.out L.u_tEnt rfl (by simpa [nE, L.hk] using iE)) rfl ⟨X, by rw [nE, L.hk], by rw [HE.out]; rfl, (fun e' h => by rw [HE.out] at h; injection h with h; subst h; exact HXE.out), ?_, HE1.out⟩
      exact HB.out.trans (HBR.out.mono (by omega))
theorem segEntry_ok (L : SG P k h) (K : SK P) {S : Nat → Prop} (iE : (P.info? 50).map (·.size) = some 35) (iB : (P.info? 5).map (·.size) = some 1) (w : World) (v : TV) (c0 c1 c2 c3 : Value) (hv : TVr S w v [c0, c1, c2, c3]) :
    Calls P 28 #[.agg #[c0, c1, c2, c3]] w (EntryPost w v) := by
  by_cases h1 : v.tag = 3
  · by_cases h2 : v.lst.length = 4
    · obtain ⟨a, ha⟩ : ∃ a, v.lst[0]? = some a := ⟨v.lst[0], by simp [h2]⟩
      by_cases h3 : a.tag = 2 ∧ a.byt.length = 32
      · exact entry_good L K iE iB w v c0 c1 c2 c3 hv h1 h2 a ha h3.1 h3.2
      · exact entry_bad2 L K iE w v c0 c1 c2 c3 hv h1 h2 a ha h3
    · exact entry_bad L K iE w v c0 c1 c2 c3 hv (.inr h2)
  · exact entry_bad L K iE w v c0 c1 c2 c3 hv (.inl h1)
end Go.Proofs.Ytpomfegcifpfkaa
