/- segment's Get. -/
import Derived.Test.YtpomfegcifpfkaaSegEntry2
import Derived.Test.YtpomfegcifpfkaaL10Own
namespace Go.Proofs.Ytpomfegcifpfkaa
open Go Go.RowKit Go.Sort
variable {P : Program} {k h : Nat}
/-- What segment's Get calls. -/
structure SO (P : Program) : Prop where
  iE : (P.info? 50).map (·.size) = some 35
  iB : (P.info? 5).map (·.size) = some 1
  cOpen : ∀ (t : Nat) (W : World) (a : Option Addr) (n c : Nat) (xs : List UInt8), Tab W t → Bs (· = t) W (.slice a n c) xs → xs.length ≤ 100000 → Calls P 26 #[.pointer (some ⟨t, 0, none⟩), .slice a n c] W fun r w' => ∃ a' c', r = .returned (.tuple #[.slice a' (crcOpenF xs).1.length c', .int .i64 (crcOpenF xs).2]) ∧ OwnB w' W.heap.size (.slice a' (crcOpenF xs).1.length c') (crcOpenF xs).1 ∧ Tab w' t ∧ Fr (· = t) W w'
  cGet : ∀ (W : World) (x : Value) (xs : List UInt8), Bs (fun _ => False) W x xs → Calls P 27 #[x] W fun r w' => ∃ (ab : Option Addr) (cb : Nat) (al : Option Addr) (cl : Nat), r = .returned (.tuple #[.agg #[.int .i64 (getF xs).1.tag, .int .u64 ((getF xs).1.num : Int), .slice ab (getF xs).1.byt.length cb, .slice al (getF xs).1.lst.length cl], .int .i64 (getF xs).2]) ∧ TVr (fun _ => False) w' (getF xs).1 [.int .i64 (getF xs).1.tag, .int .u64 ((getF xs).1.num : Int), .slice ab (getF xs).1.byt.length cb, .slice al (getF xs).1.lst.length cl] ∧ Below W.heap.size W w'
theorem so : SO Try.prog := {
  iE := by kernel_rfl
  iB := by kernel_rfl
  cOpen := fun t W a n c xs hT hb hl => by
    refine (open_ok t _ xs W hT hb (by omega)).mono ?_
    rintro r w' ⟨v', rfl, ho, h2, h3⟩
    obtain ⟨a', c', rfl, _⟩ := ho.len
    exact ⟨a', c', rfl, ho, h2, h3⟩
  cGet := fun W x xs hb => by
    refine (get_ok (S := fun _ => False) x xs W (fun _ h => h.elim) hb).mono ?_
    rintro r w' ⟨hb, x', rfl, ⟨x0, x1, x2, x3, rfl, hv⟩⟩
    obtain ⟨_, vb, vl, ks, he, ⟨ab, cb, rfl, _⟩, ⟨_, al, cl, rfl, _⟩, _⟩ := hv.cells
    simp only [List.cons.injEq, and_true] at he
    obtain ⟨rfl, rfl, rfl, rfl⟩ := he
    exact ⟨_, _, _, _, rfl, hv, hb⟩
  }
/-- What Get answers. -/
def GetPost (t : Nat) (w : World) (r : List Ent × Int) (e : Ending) (w' : World) : Prop :=
  ∃ a c, e = .returned (.tuple #[.slice a r.1.length c, .int .i64 r.2]) ∧ Own w' w.heap.size 50 35 (.slice a r.1.length c) r.1.length (r.1.flatMap entC) ∧ Tab w' t ∧ Fr (· = t) w w'
theorem GetPost.no {t : Nat} {w w' : World} {f : Int} (hT : Tab w' t) (hf : Fr (· = t) w w') : GetPost t w ([], f) (.returned (.tuple #[.slice none 0 0, .int .i64 f])) w' :=
  ⟨none, 0, rfl, Own.nil _ _ _ _, hT, hf⟩
set_option maxHeartbeats 2000000 in
set_option maxRecDepth 100000 in
theorem segGet_shut (L : SG P k h) (K : SK P) (O : SO P) (t : Nat) (w : World) (v : Value) (xs : List UInt8) (hT : Tab w t) (hb : Bs (· = t) w v xs) (hlen : xs.length ≤ 100000) (hf : (crcOpenF xs).2 ≠ 0) :
    Calls P 9 #[.pointer (some ⟨t, 0, none⟩), v] w (GetPost t w (getSegF xs)) := by
  have hR : getSegF xs = ([], (crcOpenF xs).2) := by
    unfold getSegF
    split
    rename_i b f hcf
    rw [hcf] at hf ⊢
    rw [if_neg hf]
  obtain ⟨a, c, rfl, _⟩ := id hb
  have hO := O.cOpen t w a _ c xs hT hb hlen
  rw [hR]
  have HO := hid hO
  have hd : ((crcOpenF xs).2 != 0) = true := by simpa using hf
  clear hT hb hO hR hf
  have u_tUnit := L.u_tUnit; have r_tUnit := L.r_tUnit; have a_tUnit := L.a_tUnit; have z_tUnit := L.z_tUnit; have v_tUnit := L.v_tUnit; have u_tInt := L.u_tInt; have r_tInt := L.r_tInt; have a_tInt := L.a_tInt; have z_tInt := L.z_tInt; have v_tInt := L.v_tInt; have u_tBool := L.u_tBool; have r_tBool := L.r_tBool; have a_tBool := L.a_tBool; have z_tBool := L.z_tBool; have v_tBool := L.v_tBool; have u_tEnts := L.u_tEnts; have r_tEnts := L.r_tEnts; have a_tEnts := L.a_tEnts; have z_tEnts := L.z_tEnts; have v_tEnts := L.v_tEnts; have u_tBytes := L.u_tBytes; have r_tBytes := L.r_tBytes; have a_tBytes := L.a_tBytes; have z_tBytes := L.z_tBytes; have v_tBytes := L.v_tBytes
  have u_tVal := K.u_tVal; have r_tVal := K.r_tVal; have a_tVal := K.a_tVal; have z_tVal := K.z_tVal; have v_tVal := K.v_tVal; have u_tVals := K.u_tVals; have r_tVals := K.r_tVals; have a_tVals := K.a_tVals; have z_tVals := K.z_tVals; have v_tVals := K.v_tVals; have u_tU64 := K.u_tU64; have r_tU64 := K.r_tU64; have a_tU64 := K.a_tU64; have z_tU64 := K.z_tU64; have v_tU64 := K.v_tU64; have u_tFault := K.u_tFault; have r_tFault := K.r_tFault; have a_tFault := K.a_tFault; have z_tFault := K.z_tFault; have v_tFault := K.v_tFault; have u_tPtrTab := K.u_tPtrTab; have r_tPtrTab := K.r_tPtrTab; have a_tPtrTab := K.a_tPtrTab; have z_tPtrTab := K.z_tPtrTab; have v_tPtrTab := K.v_tPtrTab; have u_tBytesFault := K.u_tBytesFault; have r_tBytesFault := K.r_tBytesFault; have a_tBytesFault := K.a_tBytesFault; have z_tBytesFault := K.z_tBytesFault; have v_tBytesFault := K.v_tBytesFault; have u_tValFault := K.u_tValFault; have r_tValFault := K.r_tValFault; have a_tValFault := K.a_tValFault; have z_tValFault := K.z_tValFault; have v_tValFault := K.v_tValFault
  have mixed := L.mixed
  have e_crcOpen : ∀ args w, (callFunc 26 args).run P w = .ok (.enter 26 args) w := enters_of K.f_crcOpen rfl rfl
  generalize (crcOpenF xs).1 = i at *
  generalize (crcOpenF xs).2 = f at *
  go_enter K.f_segGet, Try.ntmps9
  go_wp2_with (go_at_fn 26; refine HO.out.mono ?_; rintro r w1 ⟨a', c', rfl, ho, hT, hF⟩; have H1 := hid (And.intro hT hF); clear ho hT hF)
  go_ret2
  exact GetPost.no H1.out.1 H1.out.2
set_option maxHeartbeats 2000000 in
set_option maxRecDepth 100000 in
theorem segGet_odd (L : SG P k h) (K : SK P) (O : SO P) (t : Nat) (w : World) (v : Value) (xs : List UInt8) (hT : Tab w t) (hb : Bs (· = t) w v xs) (hlen : xs.length ≤ 100000) (hf : (crcOpenF xs).2 = 0)
    (hv : ¬ ((getF (crcOpenF xs).1).2 = 0 ∧ (getF (crcOpenF xs).1).1.tag = 3)) :
    Calls P 9 #[.pointer (some ⟨t, 0, none⟩), v] w (GetPost t w (getSegF xs)) := by
  have hR : getSegF xs = ([], 3) := by
    unfold getSegF
    split
    rename_i b f hcf
    rw [hcf] at hf hv
    simp only at hf hv ⊢
    rw [if_pos hf]
    unfold getInF
    split
    rename_i v' g hg
    rw [hg] at hv
    rw [if_neg hv]
  obtain ⟨a, c, rfl, _⟩ := id hb
  have hO := O.cOpen t w a _ c xs hT hb hlen
  rw [hR]
  rw [hf] at hO
  have HO := hid hO
  have CG := hid O.cGet
  clear hT hb hO hR
  have u_tUnit := L.u_tUnit; have r_tUnit := L.r_tUnit; have a_tUnit := L.a_tUnit; have z_tUnit := L.z_tUnit; have v_tUnit := L.v_tUnit; have u_tInt := L.u_tInt; have r_tInt := L.r_tInt; have a_tInt := L.a_tInt; have z_tInt := L.z_tInt; have v_tInt := L.v_tInt; have u_tBool := L.u_tBool; have r_tBool := L.r_tBool; have a_tBool := L.a_tBool; have z_tBool := L.z_tBool; have v_tBool := L.v_tBool; have u_tEnts := L.u_tEnts; have r_tEnts := L.r_tEnts; have a_tEnts := L.a_tEnts; have z_tEnts := L.z_tEnts; have v_tEnts := L.v_tEnts; have u_tBytes := L.u_tBytes; have r_tBytes := L.r_tBytes; have a_tBytes := L.a_tBytes; have z_tBytes := L.z_tBytes; have v_tBytes := L.v_tBytes
  have u_tVal := K.u_tVal; have r_tVal := K.r_tVal; have a_tVal := K.a_tVal; have z_tVal := K.z_tVal; have v_tVal := K.v_tVal; have u_tVals := K.u_tVals; have r_tVals := K.r_tVals; have a_tVals := K.a_tVals; have z_tVals := K.z_tVals; have v_tVals := K.v_tVals; have u_tU64 := K.u_tU64; have r_tU64 := K.r_tU64; have a_tU64 := K.a_tU64; have z_tU64 := K.z_tU64; have v_tU64 := K.v_tU64; have u_tFault := K.u_tFault; have r_tFault := K.r_tFault; have a_tFault := K.a_tFault; have z_tFault := K.z_tFault; have v_tFault := K.v_tFault; have u_tPtrTab := K.u_tPtrTab; have r_tPtrTab := K.r_tPtrTab; have a_tPtrTab := K.a_tPtrTab; have z_tPtrTab := K.z_tPtrTab; have v_tPtrTab := K.v_tPtrTab; have u_tBytesFault := K.u_tBytesFault; have r_tBytesFault := K.r_tBytesFault; have a_tBytesFault := K.a_tBytesFault; have z_tBytesFault := K.z_tBytesFault; have v_tBytesFault := K.v_tBytesFault; have u_tValFault := K.u_tValFault; have r_tValFault := K.r_tValFault; have a_tValFault := K.a_tValFault; have z_tValFault := K.z_tValFault; have v_tValFault := K.v_tValFault
  have mixed := L.mixed
  have e_crcOpen : ∀ args w, (callFunc 26 args).run P w = .ok (.enter 26 args) w := enters_of K.f_crcOpen rfl rfl
  have e_tlvGet : ∀ args w, (callFunc 27 args).run P w = .ok (.enter 27 args) w := enters_of K.f_tlvGet rfl rfl
  generalize (crcOpenF xs).1 = i at *
  by_cases hg : (getF i).2 = 0
  · have ht := fun h => hv ⟨hg, h⟩
    have hd : ((getF i).1.tag != 3) = true := by simpa using ht
    have hd2 : decide ((getF i).1.tag = 3) = false := decide_eq_false ht
    have CGi := hid (show ∀ (W : World) (x : Value), Bs (fun _ => False) W x i → Calls P 27 #[x] W fun r w' => ∃ (ab : Option Addr) (cb : Nat) (al : Option Addr) (cl : Nat), r = .returned (.tuple #[.agg #[.int .i64 (getF i).1.tag, .int .u64 ((getF i).1.num : Int), .slice ab (getF i).1.byt.length cb, .slice al (getF i).1.lst.length cl], .int .i64 0]) ∧ TVr (fun _ => False) w' (getF i).1 [.int .i64 (getF i).1.tag, .int .u64 ((getF i).1.num : Int), .slice ab (getF i).1.byt.length cb, .slice al (getF i).1.lst.length cl] ∧ Below W.heap.size W w' from fun W x hx => by
      have := CG.out W x i hx
      rwa [hg] at this)
    clear hv hg ht CG
    generalize (getF i).1 = tv at *
    go_enter K.f_segGet, Try.ntmps9
    go_wp2_with (first | (go_at_fn 26; refine HO.out.mono ?_; rintro r w1 ⟨a', c', rfl, ho, hT, hF⟩; have H1 := hid (And.intro hT hF); have O1 := hid ho; clear ho hT hF) | (go_at_fn 27; refine (CGi.out _ _ (O1.out.bs (fun _ _ _ h => h))).mono ?_; rintro r w2 ⟨ab, cb, al, cl, rfl, hv2, hb2⟩; have V2 := hid hv2; have B2 := hid hb2; clear hv2 hb2))
    go_ret2
    exact GetPost.no ((H1.out.1.fr (Fr.of_below B2.out : Fr (fun _ => False) _ _) id).fr ((Fr.refl (fun _ => False) w2).alloc _) id) ((H1.out.2.trans (Fr.of_below B2.out)).alloc _)
  · have hd : ((getF i).2 != 0) = true := by simpa using hg
    clear hv hg
    have CGi := hid (fun (W : World) (x : Value) hx => CG.out W x i hx)
    clear CG
    generalize (getF i).1 = tv at *
    generalize (getF i).2 = g at *
    go_enter K.f_segGet, Try.ntmps9
    go_wp2_with (first | (go_at_fn 26; refine HO.out.mono ?_; rintro r w1 ⟨a', c', rfl, ho, hT, hF⟩; have H1 := hid (And.intro hT hF); have O1 := hid ho; clear ho hT hF) | (go_at_fn 27; refine (CGi.out _ _ (O1.out.bs (fun _ _ _ h => h))).mono ?_; rintro r w2 ⟨ab, cb, al, cl, rfl, hv2, hb2⟩; have V2 := hid hv2; have B2 := hid hb2; clear hv2 hb2))
    go_ret2
    exact GetPost.no ((H1.out.1.fr (Fr.of_below B2.out : Fr (fun _ => False) _ _) id).fr ((Fr.refl (fun _ => False) w2).alloc _) id) ((H1.out.2.trans (Fr.of_below B2.out)).alloc _)
end Go.Proofs.Ytpomfegcifpfkaa
/- segment's Get of a value that is a list. -/
namespace Go.Proofs.Ytpomfegcifpfkaa
open Go Go.RowKit Go.Sort
variable {P : Program} {k h : Nat}
/-- A list's element: its cells, and what they read as. -/
theorem elem_reads {S : Nat → Prop} {w : World} {l : List TV} {ks : List Value} (hch : TVch S w l ks) {bl off : Nat} (hc : ∀ j x, ks[j]? = some x → w.cell? ⟨bl, off + j, none⟩ = some x) (hbl : bl < w.heap.size) {i : Nat} {u : TV} (hu : l[i]? = some u) :
    ∃ a c a' c', TVr S w u [.int .i64 u.tag, .int .u64 (u.num : Int), .slice a u.byt.length c, .slice a' u.lst.length c'] ∧ ∀ W, Below w.heap.size w W → W.cell? ⟨bl, off + i * 4, none⟩ = some (.int .i64 u.tag) ∧ W.cell? ⟨bl, off + i * 4 + 1, none⟩ = some (.int .u64 (u.num : Int)) ∧ W.cell? ⟨bl, off + i * 4 + 2, none⟩ = some (.slice a u.byt.length c) ∧ W.cell? ⟨bl, off + i * 4 + 3, none⟩ = some (.slice a' u.lst.length c') := by
  obtain ⟨cs, hv, hg⟩ := hch.get hu
  obtain ⟨_, vb, vl, kk, he, hb, hr, _⟩ := hv.cells
  obtain ⟨a, c, rfl, hb2⟩ := hb
  obtain ⟨_, a', c', rfl, _⟩ := hr
  subst he
  have go : ∀ W, Below w.heap.size w W → ∀ j x, ([.int .i64 u.tag, .int .u64 (u.num : Int), .slice a u.byt.length c, .slice a' u.lst.length c'] : List Value)[j]? = some x → W.cell? ⟨bl, off + i * 4 + j, none⟩ = some x := fun W hB j x hx => by
    have := (hB.cell (p := ⟨bl, off + (i * 4 + j), none⟩) hbl).trans (hc (i * 4 + j) x (hg j x hx))
    rw [← Nat.add_assoc] at this; exact this
  exact ⟨a, c, a', c', hv, fun W hB => ⟨go W hB 0 _ rfl, go W hB 1 _ rfl, go W hB 2 _ rfl, go W hB 3 _ rfl⟩⟩
theorem entriesF_take_succ : ∀ {l : List TV} {i : Nat} {x : TV} {m : List Ent} {e : Ent}, l[i]? = some x → entriesF (l.take i) = some m → entryF x = some e → entriesF (l.take (i + 1)) = some (m ++ [e])
  | [], i, x, m, e, h, _, _ => by simp at h
  | v :: l, 0, x, m, e, h, hm, he => by
    simp only [List.getElem?_cons_zero, Option.some.injEq] at h
    subst h
    simp only [List.take_zero, entriesF, Option.some.injEq] at hm
    subst hm
    simp only [Nat.zero_add, List.take_succ_cons, List.take_zero, entriesF, he, Option.bind_some, Option.map_some, List.nil_append]
  | v :: l, i + 1, x, m, e, h, hm, he => by
    rw [List.take_succ_cons, entriesF, Option.bind_eq_some_iff] at hm
    obtain ⟨a, ha, hm⟩ := hm
    rw [Option.map_eq_some_iff] at hm
    obtain ⟨m', hm', rfl⟩ := hm
    have ih := entriesF_take_succ (l := l) (i := i) (by simpa using h) hm' he
    rw [List.take_succ_cons, entriesF, ha, Option.bind_some, ih]
    rfl
theorem entriesF_none : ∀ {l : List TV} {i : Nat} {x : TV}, l[i]? = some x → entryF x = none → entriesF l = none
  | [], i, x, h, _ => by simp at h
  | v :: l, 0, x, h, he => by
    simp only [List.getElem?_cons_zero, Option.some.injEq] at h
    subst h
    rw [entriesF, he]; rfl
  | v :: l, i + 1, x, h, he => by
    rw [entriesF, entriesF_none (l := l) (i := i) (by simpa using h) he]
    cases entryF v <;> rfl
/-- What is answered of a list of values. -/
def listF (l : List TV) : List Ent × Int := match entriesF l with | some m => if rightL m then (m, 0) else ([], 3) | none => ([], 3)
set_option maxHeartbeats 4000000 in
set_option maxRecDepth 100000 in
theorem segGet_list (L : SG P k h) (K : SK P) (O : SO P) (t : Nat) (w : World) (v : Value) (xs : List UInt8) (hT : Tab w t) (hb : Bs (· = t) w v xs) (hlen : xs.length ≤ 100000) (hf : (crcOpenF xs).2 = 0)
    (hg : (getF (crcOpenF xs).1).2 = 0) (ht : (getF (crcOpenF xs).1).1.tag = 3) (hll : (getF (crcOpenF xs).1).1.lst.length ≤ 100000) :
    Calls P 9 #[.pointer (some ⟨t, 0, none⟩), v] w (GetPost t w (listF (getF (crcOpenF xs).1).1.lst)) := by
  obtain ⟨a, c, rfl, _⟩ := id hb
  have htl := hT.lt
  have hO := O.cOpen t w a _ c xs hT hb hlen
  rw [hf] at hO
  have HO := hid hO
  clear hT hb hO
  have u_tUnit := L.u_tUnit; have r_tUnit := L.r_tUnit; have a_tUnit := L.a_tUnit; have z_tUnit := L.z_tUnit; have v_tUnit := L.v_tUnit; have u_tInt := L.u_tInt; have r_tInt := L.r_tInt; have a_tInt := L.a_tInt; have z_tInt := L.z_tInt; have v_tInt := L.v_tInt; have u_tBool := L.u_tBool; have r_tBool := L.r_tBool; have a_tBool := L.a_tBool; have z_tBool := L.z_tBool; have v_tBool := L.v_tBool; have u_tEnt := L.u_tEnt; have r_tEnt := L.r_tEnt; have a_tEnt := L.a_tEnt; have z_tEnt := L.z_tEnt; have v_tEnt := L.v_tEnt; have u_tEnts := L.u_tEnts; have r_tEnts := L.r_tEnts; have a_tEnts := L.a_tEnts; have z_tEnts := L.z_tEnts; have v_tEnts := L.v_tEnts; have u_tBytes := L.u_tBytes; have r_tBytes := L.r_tBytes; have a_tBytes := L.a_tBytes; have z_tBytes := L.z_tBytes; have v_tBytes := L.v_tBytes
  have u_tVal := K.u_tVal; have r_tVal := K.r_tVal; have a_tVal := K.a_tVal; have z_tVal := K.z_tVal; have v_tVal := K.v_tVal; have u_tVals := K.u_tVals; have r_tVals := K.r_tVals; have a_tVals := K.a_tVals; have z_tVals := K.z_tVals; have v_tVals := K.v_tVals; have u_tU64 := K.u_tU64; have r_tU64 := K.r_tU64; have a_tU64 := K.a_tU64; have z_tU64 := K.z_tU64; have v_tU64 := K.v_tU64; have u_tFault := K.u_tFault; have r_tFault := K.r_tFault; have a_tFault := K.a_tFault; have z_tFault := K.z_tFault; have v_tFault := K.v_tFault; have u_tPtrTab := K.u_tPtrTab; have r_tPtrTab := K.r_tPtrTab; have a_tPtrTab := K.a_tPtrTab; have z_tPtrTab := K.z_tPtrTab; have v_tPtrTab := K.v_tPtrTab; have u_tBytesFault := K.u_tBytesFault; have r_tBytesFault := K.r_tBytesFault; have a_tBytesFault := K.a_tBytesFault; have z_tBytesFault := K.z_tBytesFault; have v_tBytesFault := K.v_tBytesFault; have u_tValFault := K.u_tValFault; have r_tValFault := K.r_tValFault; have a_tValFault := K.a_tValFault; have z_tValFault := K.z_tValFault; have v_tValFault := K.v_tValFault; have u_tEntsFault := K.u_tEntsFault; have r_tEntsFault := K.r_tEntsFault; have a_tEntsFault := K.a_tEntsFault; have z_tEntsFault := K.z_tEntsFault; have v_tEntsFault := K.v_tEntsFault; have u_tEntBool := K.u_tEntBool; have r_tEntBool := K.r_tEntBool; have a_tEntBool := K.a_tEntBool; have z_tEntBool := K.z_tEntBool; have v_tEntBool := K.v_tEntBool
  have mixed := L.mixed
  have e_crcOpen : ∀ args w, (callFunc 26 args).run P w = .ok (.enter 26 args) w := enters_of K.f_crcOpen rfl rfl
  have e_tlvGet : ∀ args w, (callFunc 27 args).run P w = .ok (.enter 27 args) w := enters_of K.f_tlvGet rfl rfl
  have e_segEntry : ∀ args w, (callFunc 28 args).run P w = .ok (.enter 28 args) w := enters_of K.f_segEntry rfl rfl
  have e_segRight : ∀ args w, (callFunc 11 args).run P w = .ok (.enter 11 args) w := enters_of L.f_segRight rfl rfl
  have CR := hid (fun W v l (hv : Es (fun _ => False) W v l) => segRight_ok L W v l hv)
  have CE := hid (fun W v c0 c1 c2 c3 (hv : TVr (fun _ => False) W v [c0, c1, c2, c3]) => segEntry_ok L K O.iE O.iB W v c0 c1 c2 c3 hv)
  generalize (crcOpenF xs).1 = i at *
  have CG := hid (show ∀ (W : World) (x : Value), Bs (fun _ => False) W x i → Calls P 27 #[x] W fun r w' => ∃ (ab : Option Addr) (cb : Nat) (al : Option Addr) (cl : Nat), r = .returned (.tuple #[.agg #[.int .i64 3, .int .u64 ((getF i).1.num : Int), .slice ab (getF i).1.byt.length cb, .slice al (getF i).1.lst.length cl], .int .i64 0]) ∧ TVr (fun _ => False) w' (getF i).1 [.int .i64 3, .int .u64 ((getF i).1.num : Int), .slice ab (getF i).1.byt.length cb, .slice al (getF i).1.lst.length cl] ∧ Below W.heap.size W w' from fun W x hx => by
    have := O.cGet W x i hx
    rwa [hg, ht] at this)
  clear hg ht
  generalize (getF i).1 = tv at *
  go_enter K.f_segGet, Try.ntmps9
  go_wp2_with (first | (go_at_fn 26; refine HO.out.mono ?_; rintro r w1 ⟨a', c', rfl, ho, hT, hF⟩; have T1 := hid hT; have F1 := hid hF; have O1 := hid ho; clear ho hT hF) | (go_at_fn 27; refine (CG.out _ _ (O1.out.bs (fun _ _ _ h => h))).mono ?_; rintro r w2 ⟨ab, cb, al, cl, rfl, hv2, hb2⟩; have V2 := hid hv2; have B2 := hid hb2; clear hv2 hb2))
  obtain ⟨wb, hwb⟩ : ∃ wb, wb = w2.alloc (.cells #[.int .i64 3, .int .u64 (tv.num : Int), .slice ab tv.byt.length cb, .slice al tv.lst.length cl] 74 (0, 0)) := ⟨_, rfl⟩
  have hB2b : Below w2.heap.size w2 wb := by rw [hwb]; exact (Below.refl _ _).alloc (Nat.le_refl _) _
  have HBB := hid hB2b
  rw [← hwb]
  clear hwb hB2b
  go_loopg [36, 4] tv.lst.length (fun kx s36 s4 wr => ∃ (j : Nat) (a : Option Addr) (c : Nat) (m : List Ent), s36 = .int .i64 j ∧ j ≤ tv.lst.length ∧ tv.lst.length - j ≤ kx ∧ s4 = .slice a j c ∧ Hid (entriesF (tv.lst.take j) = some m) ∧ Hid (m.length = j) ∧ Hid (Own wr wb.heap.size 50 k (.slice a j c) j (m.flatMap entC)) ∧ Hid (Below wb.heap.size wb wr))
  case atStart => exact ⟨0, none, 0, [], rfl, Nat.zero_le _, Nat.le_refl _, rfl, hid rfl, hid rfl, hid (Own.nil _ _ _ _), hid (Below.refl _ _)⟩
  case round =>
    obtain ⟨j, a4, c4, m, rfl, hj, hkx, rfl, HM, HML, HOW, HB⟩ := hrel
    have hzb := HBB.out.size
    have hzr := HB.out.size
    by_cases hlt : j < tv.lst.length
    · obtain ⟨x, hx⟩ : ∃ x, tv.lst[j]? = some x := ⟨tv.lst[j], by simp [hlt]⟩
      obtain ⟨_, vb', vl', ks, he', _, hrow, hch⟩ := V2.out.cells
      simp only [List.cons.injEq, and_true] at he'
      obtain ⟨-, -, -, rfl⟩ := he'
      obtain ⟨_, a9, c9, hsl, ⟨hs1, _, hs3⟩, _, h4⟩ := hrow
      injection hsl with e1 e2 e3
      subst e1 e3
      unfold maxLen at hs3
      obtain ⟨bl, off, rfl, hbl, _, hcl⟩ := h4.resolve_left (by omega)
      obtain ⟨xa, xc, xa', xc', hvx, hrd⟩ := elem_reads hch hcl hbl hx
      obtain ⟨n0, n1, n2, n3⟩ := hrd wr (HBB.out.trans (HB.out.mono hzb))
      have HXX := hid hx
      have HVX := hid hvx
      clear hx hvx hrd hcl hch h4
      obtain ⟨wx, hwx⟩ : ∃ wx, wx = wr.alloc (.cells #[.int .i64 x.tag, .int .u64 (x.num : Int), .slice xa x.byt.length xc, .slice xa' x.lst.length xc'] 74 (0, 0)) := ⟨_, rfl⟩
      have hbx : Below wr.heap.size wr wx := by rw [hwx]; exact (Below.refl _ _).alloc (Nat.le_refl _) _
      have hxb : wx.heap[wr.heap.size]? = some (.cells #[.int .i64 x.tag, .int .u64 (x.num : Int), .slice xa x.byt.length xc, .slice xa' x.lst.length xc'] 74 (0, 0)) := by rw [hwx]; exact heap_alloc_new wr _
      have q0 := cell_of_heap hxb 0
      have q1 := cell_of_heap hxb 1
      have q2 := cell_of_heap hxb 2
      have q3 := cell_of_heap hxb 3
      simp at q0 q1 q2 q3
      have hvw := (HVX.out.on (HBB.out.trans (HB.out.mono hzb))).on hbx
      have HC := hid (CE.out wx x _ _ _ _ hvw)
      have hzx := hbx.size
      have HBX := hid hbx
      have k0 : ¬ k = 0 := by rw [L.hk]; omega
      have hstN : ∀ (W : World) (X : List Value), X.length = 35 → (∀ u ∈ X, u.oneCell' = true) → Sem.run P (storeCells ⟨W.heap.size, 0, none⟩ X 0) (W.alloc (.cells (entC default).toArray 50 (0, 0))) = .ok () (W.alloc (.cells X.toArray 50 (0, 0))) := fun W X h1 h2 => stores_new (by rw [entC_length, h1]) h2
      have hldN : ∀ (W : World) (e : Ent), Sem.run P (loadCellsFrom ⟨W.heap.size, 0, none⟩ 0 k #[]) (W.alloc (.cells (entC e).toArray 50 (0, 0))) = .ok (entC e).toArray (W.alloc (.cells (entC e).toArray 50 (0, 0))) := fun W e => by rw [L.hk]; exact load_box (heap_alloc_new W _)
      have HST := hid hstN
      have HLD := hid hldN
      clear hbx hxb hvw hstN hldN
      cases hen : entryF x with
      | none =>
        have HN := hid (show listF tv.lst = ([], 3) by rw [listF, entriesF_none HXX.out hen])
        have HC' := hid (show Calls P 28 #[.agg #[.int .i64 x.tag, .int .u64 (x.num : Int), .slice xa x.byt.length xc, .slice xa' x.lst.length xc']] wx fun r w' => ∃ X : List Value, X.length = 35 ∧ r = .returned (.tuple #[.agg X.toArray, .bool false]) ∧ (∀ u ∈ X, u.oneCell' = true) ∧ Below wx.heap.size wx w' from HC.out.mono fun r w' ⟨X, h1, h2, h3, h4, h5⟩ => ⟨X, h1, by rw [hen] at h2; exact h2, h5, h4⟩)
        rw [HN.out]
        clear HC hen HM HML
        generalize entC default = Z at *
        rw [hwx] at q0 q1 q2 q3
        go_wp2_with (go_at_fn 28; rw [← hwx]; refine HC'.out.mono ?_; rintro r w3 ⟨X, hX, rfl, hX1, hb3⟩; have B3 := hid hb3; have st := HST.out w3 X hX hX1; have nX : X.length = k := (by rw [L.hk, hX]); clear hb3)
        go_ret2
        have hfr : Fr (fun _ => False) w1 (w3.alloc (.cells X.toArray 50 (0, 0))) := (((((Fr.of_below B2.out).trans (Fr.of_below HBB.out)).trans (Fr.of_below HB.out)).trans (Fr.of_below HBX.out)).trans (Fr.of_below B3.out)).alloc _
        exact GetPost.no (T1.out.fr hfr id) (F1.out.trans (hfr.mono (fun _ _ h => h.elim)))
      | some e =>
        have HC' := hid (show Calls P 28 #[.agg #[.int .i64 x.tag, .int .u64 (x.num : Int), .slice xa x.byt.length xc, .slice xa' x.lst.length xc']] wx fun r w' => r = .returned (.tuple #[.agg (entC e).toArray, .bool true]) ∧ Below wx.heap.size wx w' from HC.out.mono fun r w' ⟨X, h1, h2, h3, h4, h5⟩ => ⟨by rw [hen] at h2; rw [h3 e hen] at h2; exact h2, h4⟩)
        have HEN := hid hen
        have hrow : ∀ W : World, Row (fun _ => False) (W.alloc (.cells (entC e).toArray 50 (0, 0))) (.slice (some ⟨W.heap.size, 0, none⟩) 1 1) 1 k (entC e) := fun W => by
          refine ⟨by rw [entC_length, L.hk], _, 1, rfl, ⟨by omega, by omega, by unfold maxLen; omega⟩, (fun h => nomatch h), .inr ⟨W.heap.size, 0, rfl, by simp, id, fun j x hx => ?_⟩⟩
          have h9 := cell_of_heap (heap_alloc_new W (.cells (entC e).toArray 50 (0, 0))) j
          rw [Nat.zero_add]
          refine h9.trans ?_
          simpa using hx
        have hrow2 : ∀ W : World, Row (fun _ => False) ((W.alloc (.cells (entC e).toArray 50 (0, 0))).alloc (.cells (entC e).toArray 50 (0, 0))) (.slice (some ⟨W.heap.size + 1, 0, none⟩) 1 1) 1 k (entC e) := fun W => by
          have := hrow (W.alloc (.cells (entC e).toArray 50 (0, 0)))
          rwa [show (W.alloc (.cells (entC e).toArray 50 (0, 0))).heap.size = W.heap.size + 1 by simp] at this
        have HROW := hid hrow2
        have hone := hid (entC_one e)
        have b7 : ¬ 16777216 < k := by rw [L.hk]; omega
        have b8 : (entC e).length = k := by rw [L.hk, entC_length]
        have b9 : ¬ k < (entC e).length := by omega
        have b10 : List.foldl (fun (cs : Array Value) (x : Value × Nat) => cs.setIfInBounds x.snd x.fst) (Array.map (fun x => (entC default)[x % (entC default).length]?.getD default) (Array.range k)) (entC e).zipIdx = (entC e).toArray := by
          rw [foldl_zipIdx]; exact setMany_full (by simp [b8])
        have HSE := hid (fun W => HST.out W (entC e) (entC_length e) (entC_one e))
        have HLE := hid (fun W => HLD.out W e)
        have HFM := hid (show m.flatMap entC ++ entC e = (m ++ [e]).flatMap entC by simp)
        clear HC hen hrow hrow2 HST HLD
        generalize entC default = Z at *
        generalize entC e = X at *
        rw [hwx] at q0 q1 q2 q3
        go_wp2_with (first
          | (go_at_fn 28; rw [← hwx]; refine HC'.out.mono ?_; rintro r w3 ⟨rfl, hb3⟩; have B3 := hid hb3; have st := HSE.out w3; have ld := HLE.out w3; clear hb3)
          | (at_builtin; refine wpl_append (v := .slice a4 j c4) (S := fun _ => False) (base := wb.heap.size) rfl rfl L.etE rfl (Own.fr HOW.out (((((Fr.of_below HBX.out).trans (Fr.of_below B3.out) : Fr (fun _ => False) _ _).alloc _).alloc _)) (fun _ _ h => h)) rfl (HROW.out w3) hone.out (by omega) (by simp; have := B3.out.size; omega) ?_; intro v5 w5 ho5 hf5 hm5; obtain ⟨a5, c5, rfl, _⟩ := ho5.len; have HO5 := hid (And.intro ho5 (And.intro hf5 hm5)); clear ho5 hf5 hm5))
        go_roundg (tv.lst.length - (j + 1))
        case measure => omega
        case rel =>
          obtain ⟨ho5, hf5, hm5⟩ := HO5.out
          rw [HFM.out] at ho5
          refine ⟨j + 1, a5, c5, m ++ [e], by go_num, hlt, Nat.le_refl _, rfl, hid (entriesF_take_succ HXX.out HM.out HEN.out), hid (by rw [List.length_append, HML.out]; rfl), hid ho5, hid ?_⟩
          refine Below.fr ((((HB.out.trans (HBX.out.mono hzr)).trans (B3.out.mono (by omega))).alloc (by have := B3.out.size; omega) _).alloc (by have := B3.out.size; simp; omega) _) hf5 (fun q hq hm => ?_)
          have := (Own.mine_ge HOW.out hm).1
          omega
    · obtain rfl : j = tv.lst.length := by omega
      have hm := HM.out
      rw [List.take_of_length_le (Nat.le_refl _)] at hm
      have hes : Es (fun _ => False) wr (.slice a4 tv.lst.length c4) m := by
        have h1 := HOW.out.row (S := fun _ => False) (fun _ _ _ => id)
        rw [L.hk] at h1
        rw [Es, HML.out]; exact h1
      have HR := hid (CR.out wr _ m hes)
      have hfr : Fr (fun _ => False) w1 wr := ((Fr.of_below B2.out).trans (Fr.of_below HBB.out)).trans (Fr.of_below HB.out)
      have HFR := hid hfr
      have HMM := hid hm
      clear hfr hm hes
      cases hrl : rightL m with
      | false =>
        have HN := hid (show listF tv.lst = ([], 3) by rw [listF, HMM.out]; simp [hrl])
        rw [hrl] at HR
        go_wp2_with (go_at_fn 11; refine HR.out.mono ?_; rintro r w3 ⟨rfl, hg3⟩; have G3 := hid hg3; clear hg3)
        go_ret2
        rw [HN.out]
        exact GetPost.no (T1.out.fr (HFR.out.trans (G3.out.fr _)) id) (F1.out.trans ((HFR.out.trans (G3.out.fr _)).mono (fun _ _ h => h.elim)))
      | true =>
        have HN := hid (show listF tv.lst = (m, 0) by rw [listF, HMM.out]; simp [hrl])
        rw [hrl] at HR
        go_wp2_with (go_at_fn 11; refine HR.out.mono ?_; rintro r w3 ⟨rfl, hg3⟩; have G3 := hid hg3; clear hg3)
        go_ret2
        rw [HN.out]
        have ho := HOW.out.fr (G3.out.fr (fun _ => False)) (fun _ _ => id)
        rw [L.hk] at ho
        refine ⟨a4, c4, by rw [HML.out]; rfl, ?_, T1.out.fr (HFR.out.trans (G3.out.fr _)) id, F1.out.trans ((HFR.out.trans (G3.out.fr _)).mono (fun _ _ h => h.elim))⟩
        rw [HML.out]
        exact Own.mono ho (by have := F1.out.size; have := B2.out.size; omega)
theorem inns_len {d : Nat} : ∀ {l : List TV} {s : Nat}, inns d l = some s → l.length ≤ s
  | [], s, _ => Nat.zero_le _
  | v :: l, s, h => by
    rw [inns, Option.bind_eq_some_iff] at h
    obtain ⟨k, _, h⟩ := h
    rw [Option.map_eq_some_iff] at h
    obtain ⟨q, hq, rfl⟩ := h
    have := inns_len hq
    simp only [List.length_cons]; omega
theorem inn_lst {d : Nat} {v : TV} {k : Nat} (h : inn d v = some k) : v.lst.length ≤ k := by
  obtain ⟨tag, n, b, l⟩ := v
  rw [inn] at h
  split at h
  · rw [Option.bind_eq_some_iff] at h
    obtain ⟨s, hs, h⟩ := h
    split at h
    · simp only [Option.some.injEq] at h
      have := inns_len hs
      show l.length ≤ k
      omega
    · cases h
  · cases h
theorem segGet_ok (L : SG P k h) (K : SK P) (O : SO P) (t : Nat) (w : World) (v : Value) (xs : List UInt8) (hT : Tab w t) (hb : Bs (· = t) w v xs) (hlen : xs.length ≤ 100000) :
    Calls P 9 #[.pointer (some ⟨t, 0, none⟩), v] w (GetPost t w (getSegF xs)) := by
  by_cases hf : (crcOpenF xs).2 = 0
  · by_cases hv : (getF (crcOpenF xs).1).2 = 0 ∧ (getF (crcOpenF xs).1).1.tag = 3
    · have hR : getSegF xs = listF (getF (crcOpenF xs).1).1.lst := by
        unfold getSegF
        split
        rename_i b f hcf
        rw [hcf] at hf hv ⊢
        simp only at hf hv ⊢
        rw [if_pos hf]
        unfold getInF
        split
        rename_i v' g hg
        rw [hg] at hv ⊢
        rw [if_pos hv]
        rfl
      rw [hR]
      refine segGet_list L K O t w v xs hT hb hlen hf hv.1 hv.2 ?_
      have hg : getF (crcOpenF xs).1 = ((getF (crcOpenF xs).1).1, 0) := by rw [← hv.1]
      obtain ⟨_, ⟨k, hk⟩, _⟩ := getF_back hg
      have hle := inn_le hk
      have := inn_lst hk
      omega
    · exact segGet_odd L K O t w v xs hT hb hlen hf hv
  · exact segGet_shut L K O t w v xs hT hb hlen hf
end Go.Proofs.Ytpomfegcifpfkaa
