/- segment's Put. -/
import Derived.Test.YtelijfdpgachnaaSK
namespace Go.Proofs.Ytelijfdpgachnaa
open Go Go.RowKit Go.Sort
variable {P : Program} {k h : Nat}
set_option maxHeartbeats 2000000 in
set_option maxRecDepth 100000 in
theorem segPut_bad (L : SG P k h) (K : SK P) {S : Nat → Prop} (t : Nat) (w : World) (v : Value) (l : List Ent) (hv : Es S w v l) (hr : rightL l = false) :
    Calls P 11 #[.pointer (some ⟨t, 0, none⟩), v] w fun e w' => e = .returned (.tuple #[.slice none 0 0, .int .i64 1]) ∧ Grown w w' := by
  have hR := segRight_ok L w v l hv
  rw [hr] at hR
  obtain ⟨a, c, rfl, hl1, hl2, hl3, _, h4⟩ := hv.cases
  have HR := hid hR
  clear hR h4 hv
  have u_tUnit := L.u_tUnit; have r_tUnit := L.r_tUnit; have a_tUnit := L.a_tUnit; have z_tUnit := L.z_tUnit; have v_tUnit := L.v_tUnit; have u_tInt := L.u_tInt; have r_tInt := L.r_tInt; have a_tInt := L.a_tInt; have z_tInt := L.z_tInt; have v_tInt := L.v_tInt; have u_tBool := L.u_tBool; have r_tBool := L.r_tBool; have a_tBool := L.a_tBool; have z_tBool := L.z_tBool; have v_tBool := L.v_tBool; have u_tEnts := L.u_tEnts; have r_tEnts := L.r_tEnts; have a_tEnts := L.a_tEnts; have z_tEnts := L.z_tEnts; have v_tEnts := L.v_tEnts; have u_tBytes := L.u_tBytes; have r_tBytes := L.r_tBytes; have a_tBytes := L.a_tBytes; have z_tBytes := L.z_tBytes; have v_tBytes := L.v_tBytes
  have u_tVal := K.u_tVal; have r_tVal := K.r_tVal; have a_tVal := K.a_tVal; have z_tVal := K.z_tVal; have v_tVal := K.v_tVal; have u_tVals := K.u_tVals; have r_tVals := K.r_tVals; have a_tVals := K.a_tVals; have z_tVals := K.z_tVals; have v_tVals := K.v_tVals; have u_tFault := K.u_tFault; have r_tFault := K.r_tFault; have a_tFault := K.a_tFault; have z_tFault := K.z_tFault; have v_tFault := K.v_tFault; have u_tPtrTab := K.u_tPtrTab; have r_tPtrTab := K.r_tPtrTab; have a_tPtrTab := K.a_tPtrTab; have z_tPtrTab := K.z_tPtrTab; have v_tPtrTab := K.v_tPtrTab; have u_tBytesFault := K.u_tBytesFault; have r_tBytesFault := K.r_tBytesFault; have a_tBytesFault := K.a_tBytesFault; have z_tBytesFault := K.z_tBytesFault; have v_tBytesFault := K.v_tBytesFault
  have mixed := L.mixed
  have e_segRight : ∀ args w, (callFunc 16 args).run P w = .ok (.enter 16 args) w := enters_of L.f_segRight rfl rfl
  go_enter K.f_segPut, Try.ntmps11
  go_wp2_with (go_at_fn 16; refine HR.out.mono ?_; rintro r w1 ⟨rfl, hg1⟩)
  go_ret2
  exact ⟨rfl, hg1⟩
theorem enc_segs_len {l : List Ent} (hr : rightL l = true) : (enc (segsTV l)).length ≤ 100000 := by
  obtain ⟨kk, hk⟩ := inn_segs hr
  have h1 := inn_le hk
  have h2 := inn_length _ _ _ hk
  rw [enc_length, h2]; omega
set_option maxHeartbeats 4000000 in
set_option maxRecDepth 100000 in
theorem segPut_good (L : SG P k h) (K : SK P) {S : Nat → Prop} (t : Nat) (w : World) (v : Value) (l : List Ent) (hv : Es S w v l) (hr : rightL l = true) (hT : Tab w t) :
    Calls P 11 #[.pointer (some ⟨t, 0, none⟩), v] w (PutPost t w (sealed (enc (segsTV l)))) := by
  have hR := segRight_ok L w v l hv
  rw [hr] at hR
  have ht := hT.lt
  have HT := hid hT
  obtain ⟨a, c, rfl, hl1, hl2, hl3, _, h4⟩ := hv.cases
  have hlen := rightL_len hr
  have HR := hid hR
  have H4 := hid h4
  have HRL := hid hr
  clear hR h4 hv hT hr
  have u_tUnit := L.u_tUnit; have r_tUnit := L.r_tUnit; have a_tUnit := L.a_tUnit; have z_tUnit := L.z_tUnit; have v_tUnit := L.v_tUnit; have u_tInt := L.u_tInt; have r_tInt := L.r_tInt; have a_tInt := L.a_tInt; have z_tInt := L.z_tInt; have v_tInt := L.v_tInt; have u_tBool := L.u_tBool; have r_tBool := L.r_tBool; have a_tBool := L.a_tBool; have z_tBool := L.z_tBool; have v_tBool := L.v_tBool; have u_tEnt := L.u_tEnt; have r_tEnt := L.r_tEnt; have a_tEnt := L.a_tEnt; have z_tEnt := L.z_tEnt; have v_tEnt := L.v_tEnt; have u_tEnts := L.u_tEnts; have r_tEnts := L.r_tEnts; have a_tEnts := L.a_tEnts; have z_tEnts := L.z_tEnts; have v_tEnts := L.v_tEnts; have u_tBytes := L.u_tBytes; have r_tBytes := L.r_tBytes; have a_tBytes := L.a_tBytes; have z_tBytes := L.z_tBytes; have v_tBytes := L.v_tBytes
  have u_tVal := K.u_tVal; have r_tVal := K.r_tVal; have a_tVal := K.a_tVal; have z_tVal := K.z_tVal; have v_tVal := K.v_tVal; have u_tVals := K.u_tVals; have r_tVals := K.r_tVals; have a_tVals := K.a_tVals; have z_tVals := K.z_tVals; have v_tVals := K.v_tVals; have u_tFault := K.u_tFault; have r_tFault := K.r_tFault; have a_tFault := K.a_tFault; have z_tFault := K.z_tFault; have v_tFault := K.v_tFault; have u_tPtrTab := K.u_tPtrTab; have r_tPtrTab := K.r_tPtrTab; have a_tPtrTab := K.a_tPtrTab; have z_tPtrTab := K.z_tPtrTab; have v_tPtrTab := K.v_tPtrTab; have u_tBytesFault := K.u_tBytesFault; have r_tBytesFault := K.r_tBytesFault; have a_tBytesFault := K.a_tBytesFault; have z_tBytesFault := K.z_tBytesFault; have v_tBytesFault := K.v_tBytesFault
  have mixed := L.mixed
  have etV := K.etV
  have e_segRight : ∀ args w, (callFunc 16 args).run P w = .ok (.enter 16 args) w := enters_of L.f_segRight rfl rfl
  have e_segValue : ∀ args w, (callFunc 49 args).run P w = .ok (.enter 49 args) w := enters_of K.f_segValue rfl rfl
  have e_tlvMany : ∀ args w, (callFunc 51 args).run P w = .ok (.enter 51 args) w := enters_of K.f_tlvMany rfl rfl
  have e_tlvPut : ∀ args w, (callFunc 50 args).run P w = .ok (.enter 50 args) w := enters_of K.f_tlvPut rfl rfl
  have e_crcSeal : ∀ args w, (callFunc 52 args).run P w = .ok (.enter 52 args) w := enters_of K.f_crcSeal rfl rfl
  have CM := hid K.cMany
  have CP := hid K.cPut
  have CS := hid K.cSeal
  go_enter K.f_segPut, Try.ntmps11
  go_wp2_with (go_at_fn 16; refine HR.out.mono ?_; rintro r w1 ⟨rfl, hg1⟩; have G1 := hid hg1; clear hg1)
  go_loopg [20, 6] l.length (fun kx s20 s6 wr => ∃ (i : Nat) (a : Option Addr) (c : Nat) (ks : List Value), s20 = .int .i64 i ∧ i ≤ l.length ∧ l.length - i ≤ kx ∧ s6 = .slice a i c ∧ Hid (Own wr w.heap.size 112 4 (.slice a i c) i ks) ∧ Hid (TVch (mine (.slice a i c)) wr ((l.take i).map segTV) ks) ∧ Hid (Below w.heap.size w wr))
  case atStart => exact ⟨0, none, 0, [], rfl, Nat.zero_le _, Nat.le_refl _, rfl, hid (Own.nil _ _ _ _), hid (by rw [List.take_zero, List.map_nil, TVch]), hid G1.out.below⟩
  case round =>
    obtain ⟨i, a6, c6, ks, rfl, hi, hkx, rfl, HO, HC, HB⟩ := hrel
    by_cases hlt : i < l.length
    · obtain ⟨b, off, rfl, hb, hS, hcell⟩ := H4.out.resolve_left (fun e => by subst e; simp at hlt)
      obtain ⟨e, he⟩ : ∃ e, l[i]? = some e := ⟨l[i], by simp [hlt]⟩
      have hre : rightP e = true := rightL_mem HRL.out (List.mem_of_getElem? he)
      have hcr : ∀ i e j x, l[i]? = some e → (entC e)[j]? = some x → wr.cell? ⟨b, off + i * 35 + j, none⟩ = some x := fun i e j x h1 h2 => (HB.out.cell (p := ⟨b, off + i * 35 + j, none⟩) hb).trans (hcell i e j x h1 h2)
      have l1 : Sem.run P (loadCellsFrom ⟨b, off + i * k, none⟩ 0 k #[]) wr = .ok (entC e).toArray wr := by rw [L.hk]; exact load_ent hcr he
      have st : Sem.run P (storeCells ⟨wr.heap.size, 0, none⟩ (entC e) 0) (wr.alloc (.cells (entC default).toArray 54 (0, 0))) = .ok () (wr.alloc (.cells (entC e).toArray 54 (0, 0))) := stores_new (by rw [entC_length, entC_length]) (entC_one e)
      obtain ⟨wx, hwx⟩ : ∃ wx, wx = wr.alloc (.cells (entC e).toArray 54 (0, 0)) := ⟨_, rfl⟩
      have hbx : Below wr.heap.size wr wx := by rw [hwx]; exact (Below.refl _ _).alloc (Nat.le_refl _) _
      have hx : wx.heap[wr.heap.size]? = some (.cells (entC e).toArray 54 (0, 0)) := by rw [hwx]; exact heap_alloc_new wr _
      have la : Sem.run P (loadCellsFrom ⟨wr.heap.size, 0, none⟩ 0 k #[]) wx = .ok (entC e).toArray wx := by rw [L.hk]; exact load_box hx
      have cv := K.cValue wx e hre
      have nX : (entC e).length = k := by rw [L.hk]; exact entC_length e
      have hle := HB.out.size
      have hly := hbx.size
      have HXB := hid hbx
      have HSN := hid (show (l.take i).map segTV ++ [segTV e] = (l.take (i + 1)).map segTV by rw [List.take_add_one, he]; simp)
      have GE := hid (And.intro he hcell)
      rw [← hwx] at st
      clear hwx hbx hx hcr hre he hcell
      generalize segTV e = T at *
      generalize entC e = X at *
      generalize entC default = Z at *
      go_wp2_with (first
        | (go_at_fn 49; refine cv.mono ?_; rintro r w2 ⟨x0, x1, x2, x3, rfl, hv2, hb2⟩; have h1 := hid hv2.one; have HV2 := hid hv2; have HB2 := hid hb2; have hz2 := hb2.size; clear hv2 hb2)
        | (at_builtin; refine wpl_append (v := .slice a6 i c6) (S := fun _ => False) (base := w.heap.size) rfl rfl etV rfl (Own.fr HO.out (((Fr.of_below HXB.out).trans (Fr.of_below HB2.out) : Fr (fun _ => False) _ _).alloc _) (fun _ _ h => h)) rfl (row_atk (heap_alloc_new w2 _) rfl (by omega)) h1.out (by omega) (by simp; omega) ?_; intro v5 w5 ho5 hf5 hm5; obtain ⟨a5, c5, rfl, _⟩ := ho5.len; have HO5 := hid (And.intro ho5 (And.intro hf5 hm5)); clear ho5 hf5 hm5))
      go_roundg (l.length - (i + 1))
      case measure => omega
      case rel =>
        obtain ⟨ho5, hf5, hm5⟩ := HO5.out
        have fa : Fr (fun _ => False) wr w2 := (Fr.of_below HXB.out).trans (Fr.of_below HB2.out)
        have hold := TVch.fr (fa.alloc (.cells #[x0, x1, x2, x3] 112 (0, 0))) (fun _ _ h => h.elim) _ _ HC.out
        have hnew : TVr (mine (.slice a6 i c6)) (w2.alloc (.cells #[x0, x1, x2, x3] 112 (0, 0))) T [x0, x1, x2, x3] :=
          (TVr.mono (S := fun k => k < wx.heap.size) (fun q _ hq => by have := (Own.mine_ge HO.out hq).2; omega) _ _ HV2.out).on ((Below.refl _ _).alloc (Nat.le_refl _) _)
        have hall := TVch.shift (hold.snoc hnew) hf5 (fun _ _ hq => hq) (fun q hq hm => (hm5 q hm).elim id (fun h => absurd hq (by omega)))
        rw [HSN.out] at hall
        refine ⟨i + 1, a5, c5, _, by go_num, hlt, Nat.le_refl _, rfl, hid ho5, hid hall, hid ?_⟩
        refine Below.fr (((HB.out.trans (HXB.out.mono hle)).trans (HB2.out.mono (by omega))).alloc (by omega) _) hf5 (fun q hq hm => ?_)
        have := (Own.mine_ge HO.out hm).1
        omega
    · obtain rfl : i = l.length := by omega
      have hTw : Tab wr t := HT.out.fr (Fr.of_below HB.out : Fr (fun _ => False) w wr) id
      have hvs : TVsl (fun _ => False) wr (l.map segTV) (.slice a6 l.length c6) := by
        have h1 := HO.out.row (S := fun _ => False) (fun _ _ _ => id)
        have h2 := HC.out
        rw [List.take_of_length_le (Nat.le_refl _)] at h2
        exact ⟨ks, by rw [List.length_map]; exact h1, TVch.mono (fun _ _ h => h.elim) _ _ h2⟩
      have hM := CM.out wr _ _ hvs (by rw [List.length_map]; omega)
      have hP := fun W x hx => CP.out W x _ _ hx (putF_segs HRL.out)
      have hS := fun W a c hT ho => CS.out t W a c _ hT ho (enc_segs_len HRL.out)
      rw [← segsTV] at hM
      have HM := hid hM
      have HP := hid hP
      have HS := hid hS
      have HTW := hid hTw
      have hle := HB.out.size
      clear hM hP hS hvs hTw
      generalize enc (segsTV l) = bs at *
      generalize segsTV l = tv at *
      go_wp2_with (first | (go_at_fn 51; refine HM.out.mono ?_; rintro e w2 ⟨c0, c1, c2, c3, rfl, hv2, hb2⟩; have B2 := hid (And.intro hv2 hb2); clear hv2 hb2) | (go_at_fn 50; refine (HP.out _ _ B2.out.1).mono ?_; rintro e w3 ⟨a3, q3, rfl, ho3, hb3⟩; have B3 := hid (And.intro ho3 hb3); clear ho3 hb3; have T3 := hid ((HTW.out.fr (Fr.of_below B2.out.2 : Fr (fun _ => False) _ _) id).fr (Fr.of_below B3.out.2 : Fr (fun _ => False) _ _) id); have O3 := hid (show OwnB w3 (t + 1) (.slice a3 bs.length q3) bs from Own.mono B3.out.1 (by have := B2.out.2.size; omega))) | (go_at_fn 52; refine (HS.out _ _ _ T3.out O3.out).mono ?_; rintro e w4 ⟨a4, q4, rfl, ho4, hT4, hF4⟩; have B4 := hid (And.intro ho4 (And.intro hT4 hF4)); clear ho4 hT4 hF4))
      go_ret2
      have z2 := B2.out.2.size
      have z3 := B3.out.2.size
      refine ⟨a4, q4, rfl, Own.mono B4.out.1 (by omega), B4.out.2.1, ?_⟩
      exact (((Fr.of_below HB.out).trans (Fr.of_below B2.out.2)).trans (Fr.of_below B3.out.2)).trans B4.out.2.2
end Go.Proofs.Ytelijfdpgachnaa
