/- SegmentBack, walked: with the contracts of what it calls. -/
import Derived.Test.YtelijfdpgachnaaJoinsLaw
import Derived.Test.YtelijfdpgachnaaSegGet2
import Derived.Test.YtelijfdpgachnaaR10Same
import Derived.Test.YtelijfdpgachnaaRefBytes
namespace Go.Proofs.Ytelijfdpgachnaa
open Go Go.RowKit Go.Sort
variable {P : Program} {k h : Nat}
/-- Contracts of what the law calls beside, over a program that is a variable. -/
structure BC (P : Program) : Prop where
  ER : ET P 22 119 35 56 (.agg (entC default).toArray)
  gR : P.eqGuardType P.depth 119 = false
  eR : ∀ (e : Ent) (w : World), (Op.equalIn 10000 119 (.agg (entC e).toArray) (.agg (entC e).toArray)).run P w = .ok true w
  new : ∀ W : World, Calls P 10 #[] W fun e w' => ∃ t, e = .returned (.pointer (some ⟨t, 0, none⟩)) ∧ W.heap.size ≤ t ∧ Tab w' t ∧ Below W.heap.size W w'
  bytes : ∀ (W : World) (v v' : Value) (xs : List UInt8), Bs (fun _ => False) W v xs → Bs (fun _ => False) W v' xs → Calls P 22 #[v, v'] W fun e w' => e = .returned (.bool true) ∧ Below W.heap.size W w'
  sort : ∀ (W : World) (v : Value) (l : List Ent), Es (fun _ => False) W v l → l.length ≤ 1000 → Calls P 20 #[v] W (RetE' W (sortE l))
  alive : ∀ W : World, Calls P 9 #[] W fun e w' => e = .returned (.bool true) ∧ Below W.heap.size W w'
  u_tFault : P.underlying 27 = some (TypeDesc.int IntKind.i64)
  r_tFault : ∀ w, (underlying 27).run P w = .ok (TypeDesc.int IntKind.i64) w
  a_tFault : ∀ w, Sem.run P (isAgg 27) w = Result.ok false w
  z_tFault : ∀ w, Sem.run P (Go.sizeOf 27) w = Result.ok 1 w
  v_tFault : ∀ w, Sem.run P (zeroValue 27) w = Result.ok (Value.int IntKind.i64 0) w
  u_tPtrTab : P.underlying 25 = some (TypeDesc.pointer 108)
  r_tPtrTab : ∀ w, (underlying 25).run P w = .ok (TypeDesc.pointer 108) w
  a_tPtrTab : ∀ w, Sem.run P (isAgg 25) w = Result.ok false w
  z_tPtrTab : ∀ w, Sem.run P (Go.sizeOf 25) w = Result.ok 1 w
  v_tPtrTab : ∀ w, Sem.run P (zeroValue 25) w = Result.ok (Value.pointer none) w
  u_tBytesFault : P.underlying 28 = some (TypeDesc.tuple #[23, 27])
  r_tBytesFault : ∀ w, (underlying 28).run P w = .ok (TypeDesc.tuple #[23, 27]) w
  a_tBytesFault : ∀ w, Sem.run P (isAgg 28) w = Result.ok false w
  z_tBytesFault : ∀ w, Sem.run P (Go.sizeOf 28) w = Result.ok 1 w
  v_tBytesFault : ∀ w, Sem.run P (zeroValue 28) w = Result.ok (Value.tuple #[Value.slice none 0 0, Value.int IntKind.i64 0]) w
  u_tEntsFault : P.underlying 33 = some (TypeDesc.tuple #[30, 27])
  r_tEntsFault : ∀ w, (underlying 33).run P w = .ok (TypeDesc.tuple #[30, 27]) w
  a_tEntsFault : ∀ w, Sem.run P (isAgg 33) w = Result.ok false w
  z_tEntsFault : ∀ w, Sem.run P (Go.sizeOf 33) w = Result.ok 1 w
  v_tEntsFault : ∀ w, Sem.run P (zeroValue 33) w = Result.ok (Value.tuple #[Value.slice none 0 0, Value.int IntKind.i64 0]) w
  u_tREnts : P.underlying 22 = some (TypeDesc.slice 119)
  r_tREnts : ∀ w, (underlying 22).run P w = .ok (TypeDesc.slice 119) w
  a_tREnts : ∀ w, Sem.run P (isAgg 22) w = Result.ok false w
  z_tREnts : ∀ w, Sem.run P (Go.sizeOf 22) w = Result.ok 1 w
  v_tREnts : ∀ w, Sem.run P (zeroValue 22) w = Result.ok (Value.slice none 0 0) w
  f_crcNew : P.funcs[10]? = some Try.f10
  f_refBytes : P.funcs[22]? = some Try.f22
  f_l10alive : P.funcs[9]? = some Try.f9
  f_segBack : P.funcs[4]? = some Try.f4
  f_segPut : P.funcs[11]? = some Try.f11
  f_segGet : P.funcs[14]? = some Try.f14
/-- What the walk carries: the table, the entries, the bytes. -/
structure ST (t z : Nat) (w0 w1 W : World) (sv : Value) (sl : List Ent) (bv : Value) (ys : List UInt8) : Prop where
  tab : Tab W t
  fr : Fr (· = t) w1 W
  ez : Es (fun q => q = t ∨ z ≤ q) W sv sl
  bz : Bs (fun q => q = t ∨ z ≤ q) W bv ys
  first : Below w0.heap.size w0 w1
  tn : w0.heap.size ≤ t
  tz : t < z
  wz : w1.heap.size ≤ z
  zW : z ≤ W.heap.size
section
variable {t z : Nat} {w0 w1 W W' : World} {sv bv : Value} {sl : List Ent} {ys : List UInt8}
theorem ST.step (h : ST t z w0 w1 W sv sl bv ys) (ht : Tab W' t) (hf : Fr (· = t) W W') : ST t z w0 w1 W' sv sl bv ys :=
  ⟨ht, h.fr.trans hf, h.ez.fr hf (fun _ _ h => .inl h), h.bz.fr hf (fun _ _ h => .inl h), h.first, h.tn, h.tz, h.wz, Nat.le_trans h.zW hf.size⟩
theorem ST.below (h : ST t z w0 w1 W sv sl bv ys) (hb : Below W.heap.size W W') : ST t z w0 w1 W' sv sl bv ys :=
  h.step (h.tab.fr (Fr.of_below hb : Fr (fun _ => False) _ _) id) (Fr.of_below hb)
theorem ST.store (h : ST t z w0 w1 W sv sl bv ys) {g : Nat} (hf : Fr (· = g) W W') (hg : z ≤ g) : ST t z w0 w1 W' sv sl bv ys :=
  ⟨h.tab.fr hf (by have := h.tz; omega), h.fr.trans' hf (fun i hi e => by have := h.wz; omega), h.ez.fr hf (fun q _ e => .inr (by omega)), h.bz.fr hf (fun q _ e => .inr (by omega)), h.first, h.tn, h.tz, h.wz, Nat.le_trans h.zW hf.size⟩
theorem ST.es (h : ST t z w0 w1 W sv sl bv ys) : Es (· = t) W sv sl := h.ez.mono (fun _ _ h => .inl h)
theorem ST.bs (h : ST t z w0 w1 W sv sl bv ys) : Bs (· = t) W bv ys := h.bz.mono (fun _ _ h => .inl h)
theorem ST.lt (h : ST t z w0 w1 W sv sl bv ys) : t < W.heap.size := h.tab.lt
theorem ST.fin (h : ST t z w0 w1 W sv sl bv ys) : Below w0.heap.size w0 W := Below.fr h.first h.fr (fun i hi e => by have := h.tn; omega)
end
theorem sealed_segs_len {l : List Ent} (hr : rightL l = true) : (sealed (enc (segsTV l))).length ≤ 100000 := by
  obtain ⟨kk, hk⟩ := inn_segs hr
  have h1 := inn_le hk
  have h2 := inn_length _ _ _ hk
  unfold sealed
  rw [List.length_append, enc_length, h2, show (tail4 (crcSum (enc (segsTV l)))).length = 4 from rfl]
  omega
/-- Bytes, as far as the law looks at them. -/
def ArgB (w : World) (a : Option Addr) (n c : Nat) : Prop := n ≤ c ∧ c ≤ maxLen ∧ (n ≤ 2000 → ∃ xs : List UInt8, xs.length = n ∧ Bs (fun _ => False) w (.slice a n c) xs)
set_option maxHeartbeats 4000000 in
set_option maxRecDepth 100000 in
theorem back_long (L : SG P k h) (C : BC P) (w : World) (a1 a2 : Option Addr) (n1 c1 n2 c2 : Nat) (at_ : Int) (by_ : UInt8) (h1 : Arg w a1 n1 c1) (h2 : ArgB w a2 n2 c2) (hl : ¬ (n1 ≤ 60 ∧ n2 ≤ 2000)) :
    Calls P 4 #[.slice a1 n1 c1, .slice a2 n2 c2, .int .i64 at_, .int .u8 (by_.toNat : Int)] w fun e w' => e = .returned (.bool true) ∧ Below w.heap.size w w' := by
  obtain ⟨b1, b2, _⟩ := h1
  obtain ⟨b3, b4, _⟩ := h2
  unfold maxLen at b2 b4
  have u_tUnit := L.u_tUnit; have r_tUnit := L.r_tUnit; have a_tUnit := L.a_tUnit; have z_tUnit := L.z_tUnit; have v_tUnit := L.v_tUnit; have u_tInt := L.u_tInt; have r_tInt := L.r_tInt; have a_tInt := L.a_tInt; have z_tInt := L.z_tInt; have v_tInt := L.v_tInt; have u_tBool := L.u_tBool; have r_tBool := L.r_tBool; have a_tBool := L.a_tBool; have z_tBool := L.z_tBool; have v_tBool := L.v_tBool; have u_tREnts := L.u_tREnts; have r_tREnts := L.r_tREnts; have a_tREnts := L.a_tREnts; have z_tREnts := L.z_tREnts; have v_tREnts := L.v_tREnts; have u_tByte := L.u_tByte; have r_tByte := L.r_tByte; have a_tByte := L.a_tByte; have z_tByte := L.z_tByte; have v_tByte := L.v_tByte; have u_tBytes := L.u_tBytes; have r_tBytes := L.r_tBytes; have a_tBytes := L.a_tBytes; have z_tBytes := L.z_tBytes; have v_tBytes := L.v_tBytes
  have mixed := L.mixed
  have e1 : ∀ args w, (callFunc 9 args).run P w = .ok (.enter 9 args) w := enters_of C.f_l10alive rfl rfl
  have CA := hid C.alive
  by_cases q1 : n1 ≤ 60
  · have q2 : ¬ n2 ≤ 2000 := fun h => hl ⟨q1, h⟩
    go_enter C.f_segBack, Try.ntmps4
    go_wp2_with (go_at_fn 9; refine (CA.out _).mono ?_; rintro e w1 ⟨rfl, hb⟩)
    go_ret
    exact ⟨rfl, hb⟩
  · go_enter C.f_segBack, Try.ntmps4
    go_wp2_with (go_at_fn 9; refine (CA.out _).mono ?_; rintro e w1 ⟨rfl, hb⟩)
    go_ret
    exact ⟨rfl, hb⟩
set_option maxHeartbeats 8000000 in
set_option maxRecDepth 100000 in
theorem back_short (L : SG P k h) (K : SK P) (O : SO P) (C : BC P) (w : World) (a1 a2 : Option Addr) (n1 c1 n2 c2 : Nat) (at_ : Int) (by_ : UInt8) (h1 : Arg w a1 n1 c1) (h2 : ArgB w a2 n2 c2) (q1 : n1 ≤ 60) (q2 : n2 ≤ 2000) :
    Calls P 4 #[.slice a1 n1 c1, .slice a2 n2 c2, .int .i64 at_, .int .u8 (by_.toNat : Int)] w fun e w' => e = .returned (.bool true) ∧ Below w.heap.size w w' := by
  obtain ⟨b1, b2, o1⟩ := h1
  obtain ⟨b3, b4, o2⟩ := h2
  obtain ⟨l1, rfl, E1⟩ := o1 q1
  obtain ⟨ys, rfl, E2⟩ := o2 q2
  unfold maxLen at b2 b4
  have HE1 := hid E1
  have HE2 := hid E2
  have hls := sortE_length l1
  clear o1 o2 E1 E2
  have u_tUnit := L.u_tUnit; have r_tUnit := L.r_tUnit; have a_tUnit := L.a_tUnit; have z_tUnit := L.z_tUnit; have v_tUnit := L.v_tUnit; have u_tInt := L.u_tInt; have r_tInt := L.r_tInt; have a_tInt := L.a_tInt; have z_tInt := L.z_tInt; have v_tInt := L.v_tInt; have u_tBool := L.u_tBool; have r_tBool := L.r_tBool; have a_tBool := L.a_tBool; have z_tBool := L.z_tBool; have v_tBool := L.v_tBool; have u_tEnts := L.u_tEnts; have r_tEnts := L.r_tEnts; have a_tEnts := L.a_tEnts; have z_tEnts := L.z_tEnts; have v_tEnts := L.v_tEnts; have u_tREnts := L.u_tREnts; have r_tREnts := L.r_tREnts; have a_tREnts := L.a_tREnts; have z_tREnts := L.z_tREnts; have v_tREnts := L.v_tREnts; have u_tByte := L.u_tByte; have r_tByte := L.r_tByte; have a_tByte := L.a_tByte; have z_tByte := L.z_tByte; have v_tByte := L.v_tByte; have u_tBytes := L.u_tBytes; have r_tBytes := L.r_tBytes; have a_tBytes := L.a_tBytes; have z_tBytes := L.z_tBytes; have v_tBytes := L.v_tBytes
  have mixed := L.mixed
  have u_tFault := C.u_tFault; have a_tFault := C.a_tFault; have z_tFault := C.z_tFault; have v_tFault := C.v_tFault
  have e_l10Own : ∀ args w, (callFunc 12 args).run P w = .ok (.enter 12 args) w := enters_of L.f_l10Own rfl rfl
  have e_segSort : ∀ args w, (callFunc 20 args).run P w = .ok (.enter 20 args) w := enters_of L.f_segSort rfl rfl
  have e_segRight : ∀ args w, (callFunc 16 args).run P w = .ok (.enter 16 args) w := enters_of L.f_segRight rfl rfl
  have e_l10Back : ∀ args w, (callFunc 19 args).run P w = .ok (.enter 19 args) w := enters_of L.f_l10Back rfl rfl
  have e_r10Same : ∀ args w, (callFunc 18 args).run P w = .ok (.enter 18 args) w := enters_of L.f_r10Same rfl rfl
  have e_crcNew : ∀ args w, (callFunc 10 args).run P w = .ok (.enter 10 args) w := enters_of C.f_crcNew rfl rfl
  have e_refBytes : ∀ args w, (callFunc 22 args).run P w = .ok (.enter 22 args) w := enters_of C.f_refBytes rfl rfl
  have e_l10alive : ∀ args w, (callFunc 9 args).run P w = .ok (.enter 9 args) w := enters_of C.f_l10alive rfl rfl
  have e_segPut : ∀ args w, (callFunc 11 args).run P w = .ok (.enter 11 args) w := enters_of C.f_segPut rfl rfl
  have e_segGet : ∀ args w, (callFunc 14 args).run P w = .ok (.enter 14 args) w := enters_of C.f_segGet rfl rfl
  have hd1 : decide ((60 : Int) < (l1.length : Int)) = false := decide_eq_false (by omega)
  have hd2 : decide ((2000 : Int) < (ys.length : Int)) = false := decide_eq_false (by omega)
  have CN := hid C.new
  have CA := hid C.alive
  have CO := hid (fun W a c (hv : Es (fun _ => False) W (.slice a l1.length c) l1) => l10Own_ok L W _ l1 hv (by omega))
  go_enter C.f_segBack, Try.ntmps4
  go_wp2_with fail
  refine (CN.out _).mono ?_
  rintro e w1 ⟨t, rfl, ht1, hT1, hb1⟩
  have HT1 := hid hT1
  have B1 := hid hb1
  have E1 := hid (HE1.out.fr (Fr.of_below hb1 : Fr (fun _ => False) _ _) (fun _ _ h => h.elim))
  clear hT1 hb1
  go_wp2_with fail
  refine (CO.out _ _ _ E1.out).mono ?_
  rintro e w2 ⟨a2', c2', rfl, ho2, hb2⟩
  have CS := hid (C.sort w2 _ l1 (ho2.row (fun _ _ _ => id)) (by omega))
  have B2 := hid hb2
  clear ho2 hb2 E1 CO
  go_wp2_with fail
  refine CS.out.mono ?_
  rintro e w3 ⟨a3, c3, rfl, ho3, hb3⟩
  have S3 : Hid (ST t w3.heap.size w w1 w3 (.slice a3 (sortE l1).length c3) (sortE l1) (.slice a2 ys.length c2) ys) := hid (by
    have hF : Fr (fun _ => False) w1 w3 := (Fr.of_below B2.out).trans (Fr.of_below hb3)
    have hz := B2.out.size
    have htl := HT1.out.lt
    exact ⟨HT1.out.fr hF id, hF.mono (fun _ _ h => h.elim), ho3.es (fun k h1 h2 e => by omega), HE2.out.shift ((Fr.of_below B1.out).trans hF : Fr (fun _ => False) _ _) (fun _ _ h => h) (fun k h1 h2 => by have := B1.out.size; have := hF.size; omega), B1.out, ht1, by have := hF.size; omega, hF.size, Nat.le_refl _⟩)
  have O3 := hid ho3
  have hlt3 : (sortE l1).length ≤ 60 := by omega
  clear ho3 hb3 B2 CS HT1 B1 HE1 HE2
  generalize sortE l1 = s at *
  have CG : Hid (∀ W a c, ∀ xs : List UInt8, xs.length ≤ 100000 → Tab W t → Bs (· = t) W (.slice a xs.length c) xs → Calls P 14 #[.pointer (some ⟨t, 0, none⟩), .slice a xs.length c] W (GetPost t W (getSegF xs))) := hid fun W a c xs hl hT hb => segGet_ok L K O t W _ xs hT hb hl
  have CP : Hid (∀ W a c m, Es (fun _ => False) W (.slice a m.length c) m → rightL m = true → Tab W t → Calls P 11 #[.pointer (some ⟨t, 0, none⟩), .slice a m.length c] W (PutPost t W (sealed (enc (segsTV m))))) := hid fun W a c m hv hr hT => segPut_good L K t W _ m hv hr hT
  have CR := hid (fun W (a : Option Addr) c (m : List Ent) (hv : Es (fun _ => False) W (.slice a m.length c) m) => (segRight_ok L W _ m hv).mono fun _ _ (h : _ ∧ _) => (And.intro h.1 h.2.below : _ ∧ Below W.heap.size W _))
  have CB := hid C.bytes
  have hly : ys.length ≤ 100000 := by omega
  cases hrs : rightL s with
  | false =>
    have PB := hid (segPut_bad L K t w3 _ s S3.out.es hrs)
    clear hrs O3
    go_wp2_with fail
    refine PB.out.mono ?_
    rintro e w4 ⟨rfl, hg4⟩
    have S4 := hid (S3.out.below hg4.below)
    clear hg4
    go_wp2_with fail
    refine (CG.out _ _ _ ys hly S4.out.tab S4.out.bs).mono ?_
    rintro e wq1 ⟨aq1, cq1, rfl, hoq1, htq1, hfq1⟩
    have Sq1 := hid (S4.out.step htq1 hfq1)
    have Oq1 := hid hoq1
    clear hoq1 htq1 hfq1
    by_cases hg : (getSegF ys).2 = 0
    · obtain ⟨m, hm⟩ : ∃ m, getSegF ys = (m, 0) := ⟨_, by rw [← hg]⟩
      obtain ⟨hmr, hmb⟩ := getSegF_back hm
      rw [hm] at Oq1 ⊢
      have HMR := hid hmr
      have HMB := hid hmb
      have hze := Sq1.out.lt
      have Pq1 := CP.out wq1 aq1 cq1 m (Own.row Oq1.out (fun k h1 h2 e => by have := S4.out.lt; omega)) hmr Sq1.out.tab
      rw [← hmb] at Pq1
      have PPq1 := hid Pq1
      clear hg hm hmr hmb Pq1
      go_wp2_with fail
      refine PPq1.out.mono ?_
      rintro e wq2 ⟨aq2, cq2, rfl, hoq2, htq2, hfq2⟩
      have Sq2 := hid (Sq1.out.step htq2 hfq2)
      have Oq2 := hid hoq2
      have Mq2 := hid (Es.fr (show Es (· = t) wq1 _ m from Own.row Oq1.out (fun k h1 h2 e => by have := S4.out.lt; omega)) hfq2 (fun _ _ h => h))
      clear hoq2 htq2 hfq2
      have CBy := hid (CB.out wq2 _ _ ys (Oq2.out.bs (fun _ _ _ h => h)) (Sq2.out.bs.mono (fun _ _ h => h.elim)))
      go_wp2_with fail
      refine CBy.out.mono ?_
      rintro e wq3 ⟨rfl, hbq3⟩
      have CRt := hid (CR.out wq3 _ _ m ((Mq2.out.mono (fun _ _ h => h.elim)).fr (Fr.of_below hbq3 : Fr (fun _ => False) _ _) (fun _ _ h => h.elim)))
      have Sq3 := hid (Sq2.out.below hbq3)
      rw [HMR.out] at CRt
      clear hbq3
      go_wp2_with fail
      refine CRt.out.mono ?_
      rintro e wq4 ⟨rfl, hbq4⟩
      have Sq4 := hid (Sq3.out.below hbq4)
      clear hbq4
      go_wp2_with fail
      refine (CA.out _).mono ?_
      rintro e wq5 ⟨rfl, hbq5⟩
      have Sq5 := hid (Sq4.out.below hbq5)
      clear hbq5
      go_wp2
      go_ret
      exact ⟨rfl, Sq5.out.fin⟩
    · have hn := getSegF_none hg
      have hgb : ((getSegF ys).2 != 0) = true := by simpa using hg
      rw [hn]
      generalize (getSegF ys).2 = g at *
      clear hn hg
      go_wp2_with (go_at_fn 9; refine (CA.out _).mono ?_; rintro e wq2 ⟨rfl, hbq2⟩; have Sq2 := hid (Sq1.out.below hbq2); clear hbq2)
      go_ret
      exact ⟨rfl, Sq2.out.fin⟩
  | true =>
    have hxl := sealed_segs_len hrs
    have HPUT := hid (getSegF_put hrs)
    have HTURN := hid (fun q hq d hd => getSegF_turned (enc (segsTV s)) q hq d hd)
    have PB := hid (CP.out w3 _ _ s (S3.out.es.mono (fun _ _ h => h.elim)) hrs S3.out.tab)
    clear hrs O3
    generalize sealed (enc (segsTV s)) = X at *
    go_wp2_with fail
    refine PB.out.mono ?_
    rintro e w4 ⟨a4, c4, rfl, ho4, ht4, hf4⟩
    have S4 := hid (S3.out.step ht4 hf4)
    have X4 := hid ho4
    have CG4 := CG.out w4 a4 c4 X hxl ht4 (ho4.bs (fun k h1 h2 e => by have := S3.out.lt; omega))
    rw [HPUT.out] at CG4
    have HG4 := hid CG4
    clear ho4 ht4 hf4 CG4 S3 PB
    go_wp2_with fail
    refine HG4.out.mono ?_
    rintro e w5 ⟨a5, c5, rfl, ho5, ht5, hf5⟩
    have S5 := hid (S4.out.step ht5 hf5)
    have X5 := hid (Own.fr X4.out hf5 (fun k hk e => by have := (Own.mine_ge X4.out hk).1; have := S4.out.tz; omega))
    have hS4 := S4.out.lt
    have M5 : Hid (Es (· = t) w5 (.slice a5 s.length c5) s) := hid (Own.row ho5 (fun k h1 h2 e => by omega))
    have ER : ET P 22 119 k 56 (.agg (entC default).toArray) := by rw [L.hk]; exact C.ER
    have CB5 := hid (l10Back_ok L ER w5 _ s M5.out (by omega))
    clear ho5 ht5 hf5 X4 HG4
    go_wp2_with fail
    refine CB5.out.mono ?_
    rintro e w6 ⟨a6, c6, rfl, ho6, hb6⟩
    have S6 := hid (S5.out.below hb6)
    have X6 := hid (Own.fr X5.out (Fr.of_below hb6 : Fr (fun _ => False) _ _) (fun _ _ => id))
    have O6 := hid ho6
    have CB6 := hid (l10Back_ok L ER w6 _ s S6.out.es (by omega))
    clear hb6 CB5 ho6 X5
    go_wp2_with fail
    refine CB6.out.mono ?_
    rintro e w7 ⟨a7, c7, rfl, ho7, hb7⟩
    have S7 := hid (S6.out.below hb7)
    have X7 := hid (Own.fr X6.out (Fr.of_below hb7 : Fr (fun _ => False) _ _) (fun _ _ => id))
    have CS7 := hid (r10Same_ok L C.gR C.eR w7 s _ _ (Own.row (S := fun _ => False) (Own.fr O6.out (Fr.of_below hb7 : Fr (fun _ => False) _ _) (fun _ _ => id)) (fun _ _ _ => id)) (Own.row (S := fun _ => False) ho7 (fun _ _ _ => id)))
    clear hb7 CB6 ho7 X6 O6
    go_wp2_with fail
    refine CS7.out.mono ?_
    rintro e w8 ⟨rfl, hb8⟩
    have S8 := hid (S7.out.below hb8)
    have X8 := hid (Own.fr X7.out (Fr.of_below hb8 : Fr (fun _ => False) _ _) (fun _ _ => id))
    clear hb8 CS7 X7 M5
    by_cases p1 : 0 ≤ at_
    · have hp1 : decide (0 ≤ at_) = true := decide_eq_true p1
      obtain ⟨q, rfl⟩ : ∃ q : Nat, at_ = q := ⟨at_.toNat, by omega⟩
      by_cases p2 : q < X.length
      · have hp2 : decide (q < X.length) = true := decide_eq_true p2
        by_cases p3 : by_ = 0
        · have hp3 : ((by_.toNat : Int) != 0) = false := by rw [p3]; rfl
          clear p3
          go_wp2_with fail
          refine (CG.out _ _ _ ys hly S8.out.tab S8.out.bs).mono ?_
          rintro e wq1 ⟨aq1, cq1, rfl, hoq1, htq1, hfq1⟩
          have Sq1 := hid (S8.out.step htq1 hfq1)
          have Oq1 := hid hoq1
          clear hoq1 htq1 hfq1
          by_cases hg : (getSegF ys).2 = 0
          · obtain ⟨m, hm⟩ : ∃ m, getSegF ys = (m, 0) := ⟨_, by rw [← hg]⟩
            obtain ⟨hmr, hmb⟩ := getSegF_back hm
            rw [hm] at Oq1 ⊢
            have HMR := hid hmr
            have HMB := hid hmb
            have hze := Sq1.out.lt
            have Pq1 := CP.out wq1 aq1 cq1 m (Own.row Oq1.out (fun k h1 h2 e => by have := S8.out.lt; omega)) hmr Sq1.out.tab
            rw [← hmb] at Pq1
            have PPq1 := hid Pq1
            clear hg hm hmr hmb Pq1
            go_wp2_with fail
            refine PPq1.out.mono ?_
            rintro e wq2 ⟨aq2, cq2, rfl, hoq2, htq2, hfq2⟩
            have Sq2 := hid (Sq1.out.step htq2 hfq2)
            have Oq2 := hid hoq2
            have Mq2 := hid (Es.fr (show Es (· = t) wq1 _ m from Own.row Oq1.out (fun k h1 h2 e => by have := S8.out.lt; omega)) hfq2 (fun _ _ h => h))
            clear hoq2 htq2 hfq2
            have CBy := hid (CB.out wq2 _ _ ys (Oq2.out.bs (fun _ _ _ h => h)) (Sq2.out.bs.mono (fun _ _ h => h.elim)))
            go_wp2_with fail
            refine CBy.out.mono ?_
            rintro e wq3 ⟨rfl, hbq3⟩
            have CRt := hid (CR.out wq3 _ _ m ((Mq2.out.mono (fun _ _ h => h.elim)).fr (Fr.of_below hbq3 : Fr (fun _ => False) _ _) (fun _ _ h => h.elim)))
            have Sq3 := hid (Sq2.out.below hbq3)
            rw [HMR.out] at CRt
            clear hbq3
            go_wp2_with fail
            refine CRt.out.mono ?_
            rintro e wq4 ⟨rfl, hbq4⟩
            have Sq4 := hid (Sq3.out.below hbq4)
            clear hbq4
            go_wp2_with fail
            refine (CA.out _).mono ?_
            rintro e wq5 ⟨rfl, hbq5⟩
            have Sq5 := hid (Sq4.out.below hbq5)
            clear hbq5
            go_wp2
            go_ret
            exact ⟨rfl, Sq5.out.fin⟩
          · have hn := getSegF_none hg
            have hgb : ((getSegF ys).2 != 0) = true := by simpa using hg
            rw [hn]
            generalize (getSegF ys).2 = g at *
            clear hn hg
            go_wp2_with (go_at_fn 9; refine (CA.out _).mono ?_; rintro e wq2 ⟨rfl, hbq2⟩; have Sq2 := hid (Sq1.out.below hbq2); clear hbq2)
            go_ret
            exact ⟨rfl, Sq2.out.fin⟩
        · have hp3 : ((by_.toNat : Int) != 0) = true := by
            have : by_.toNat ≠ 0 := fun h => p3 (UInt8.toNat_inj.1 h)
            simp; omega
          obtain ⟨d, hd⟩ : ∃ d, d = X[q] ^^^ by_ := ⟨_, rfl⟩
          have hdn : d ≠ X[q] := fun h => p3 (by
            rw [hd] at h
            have h2 : X[q] ^^^ (X[q] ^^^ by_) = X[q] ^^^ X[q] := by rw [h]
            rw [← UInt8.xor_assoc, UInt8.xor_self, UInt8.zero_xor] at h2
            exact h2)
          have hxor : bits .xor .u8 (X[q].toNat : Int) (by_.toNat : Int) = (d.toNat : Int) := by
            rw [bits_xor_u8 _ _ X[q].toNat_lt by_.toNat_lt, hd, UInt8.toNat_xor]
          rcases id X8.out with ⟨_, ⟨hn0, _⟩ | ⟨g, cap, cur, hv, hbg, hgc, hfit, hsz, htk⟩⟩
          · omega
          injection hv with ea eb ec
          subst ea ec
          have kc := (Own.cellAt X8.out (i := q) (by omega)).2
          have kf := Own.frozen X8.out (by omega) q
          rw [show (bcells X)[q]? = some (.int .u8 (X[q].toNat : Int)) by unfold bcells; rw [List.getElem?_map, List.getElem?_eq_getElem p2]; rfl] at kc
          have ho9 := (Own.store X8.out q (by omega) (.int .u8 (d.toNat : Int))).2
          rw [show (bcells X).set q (.int .u8 (d.toNat : Int)) = bcells (X.set q d) by unfold bcells; rw [List.map_set]; rfl] at ho9
          have S9 := hid (S8.out.store ((Fr.refl (· = g) w8).set1 q (.int .u8 (d.toNat : Int))) hbg)
          have CG9 := CG.out (w8.setCell ⟨g, q, none⟩ (.int .u8 (d.toNat : Int))) (some ⟨g, 0, none⟩) c4 (X.set q d) (by rw [List.length_set]; exact hxl) S9.out.tab (Bs.of_row (n := (X.set q d).length) (by rw [List.length_set]; exact Own.row ho9 (fun k h1 h2 e => by have := S8.out.tz; omega)))
          rw [List.length_set, HTURN.out q p2 d hdn] at CG9
          have HG9 := hid CG9
          have hfit1 := hfit.1
          have hfit3 := hfit.2.2
          unfold maxLen at hfit3
          clear CG9 ho9 hgc hsz htk hd hdn p3 X8 hfit
          generalize X[q] = x0 at *
          go_wp2_with fail
          refine HG9.out.mono ?_
          rintro e w10 ⟨a10, c10, rfl, ho10, ht10, hf10⟩
          have S10 := hid (S9.out.step ht10 hf10)
          clear ho10 ht10 hf10 S9
          go_wp2_with fail
          refine (CG.out _ _ _ ys hly S10.out.tab S10.out.bs).mono ?_
          rintro e wq1 ⟨aq1, cq1, rfl, hoq1, htq1, hfq1⟩
          have Sq1 := hid (S10.out.step htq1 hfq1)
          have Oq1 := hid hoq1
          clear hoq1 htq1 hfq1
          by_cases hg : (getSegF ys).2 = 0
          · obtain ⟨m, hm⟩ : ∃ m, getSegF ys = (m, 0) := ⟨_, by rw [← hg]⟩
            obtain ⟨hmr, hmb⟩ := getSegF_back hm
            rw [hm] at Oq1 ⊢
            have HMR := hid hmr
            have HMB := hid hmb
            have hze := Sq1.out.lt
            have Pq1 := CP.out wq1 aq1 cq1 m (Own.row Oq1.out (fun k h1 h2 e => by have := S10.out.lt; omega)) hmr Sq1.out.tab
            rw [← hmb] at Pq1
            have PPq1 := hid Pq1
            clear hg hm hmr hmb Pq1
            go_wp2_with fail
            refine PPq1.out.mono ?_
            rintro e wq2 ⟨aq2, cq2, rfl, hoq2, htq2, hfq2⟩
            have Sq2 := hid (Sq1.out.step htq2 hfq2)
            have Oq2 := hid hoq2
            have Mq2 := hid (Es.fr (show Es (· = t) wq1 _ m from Own.row Oq1.out (fun k h1 h2 e => by have := S10.out.lt; omega)) hfq2 (fun _ _ h => h))
            clear hoq2 htq2 hfq2
            have CBy := hid (CB.out wq2 _ _ ys (Oq2.out.bs (fun _ _ _ h => h)) (Sq2.out.bs.mono (fun _ _ h => h.elim)))
            go_wp2_with fail
            refine CBy.out.mono ?_
            rintro e wq3 ⟨rfl, hbq3⟩
            have CRt := hid (CR.out wq3 _ _ m ((Mq2.out.mono (fun _ _ h => h.elim)).fr (Fr.of_below hbq3 : Fr (fun _ => False) _ _) (fun _ _ h => h.elim)))
            have Sq3 := hid (Sq2.out.below hbq3)
            rw [HMR.out] at CRt
            clear hbq3
            go_wp2_with fail
            refine CRt.out.mono ?_
            rintro e wq4 ⟨rfl, hbq4⟩
            have Sq4 := hid (Sq3.out.below hbq4)
            clear hbq4
            go_wp2_with fail
            refine (CA.out _).mono ?_
            rintro e wq5 ⟨rfl, hbq5⟩
            have Sq5 := hid (Sq4.out.below hbq5)
            clear hbq5
            go_wp2
            go_ret
            exact ⟨rfl, Sq5.out.fin⟩
          · have hn := getSegF_none hg
            have hgb : ((getSegF ys).2 != 0) = true := by simpa using hg
            rw [hn]
            generalize (getSegF ys).2 = g at *
            clear hn hg
            go_wp2_with (go_at_fn 9; refine (CA.out _).mono ?_; rintro e wq2 ⟨rfl, hbq2⟩; have Sq2 := hid (Sq1.out.below hbq2); clear hbq2)
            go_ret
            exact ⟨rfl, Sq2.out.fin⟩
      · have hp2 : decide (q < X.length) = false := decide_eq_false p2
        go_wp2_with fail
        refine (CG.out _ _ _ ys hly S8.out.tab S8.out.bs).mono ?_
        rintro e wq1 ⟨aq1, cq1, rfl, hoq1, htq1, hfq1⟩
        have Sq1 := hid (S8.out.step htq1 hfq1)
        have Oq1 := hid hoq1
        clear hoq1 htq1 hfq1
        by_cases hg : (getSegF ys).2 = 0
        · obtain ⟨m, hm⟩ : ∃ m, getSegF ys = (m, 0) := ⟨_, by rw [← hg]⟩
          obtain ⟨hmr, hmb⟩ := getSegF_back hm
          rw [hm] at Oq1 ⊢
          have HMR := hid hmr
          have HMB := hid hmb
          have hze := Sq1.out.lt
          have Pq1 := CP.out wq1 aq1 cq1 m (Own.row Oq1.out (fun k h1 h2 e => by have := S8.out.lt; omega)) hmr Sq1.out.tab
          rw [← hmb] at Pq1
          have PPq1 := hid Pq1
          clear hg hm hmr hmb Pq1
          go_wp2_with fail
          refine PPq1.out.mono ?_
          rintro e wq2 ⟨aq2, cq2, rfl, hoq2, htq2, hfq2⟩
          have Sq2 := hid (Sq1.out.step htq2 hfq2)
          have Oq2 := hid hoq2
          have Mq2 := hid (Es.fr (show Es (· = t) wq1 _ m from Own.row Oq1.out (fun k h1 h2 e => by have := S8.out.lt; omega)) hfq2 (fun _ _ h => h))
          clear hoq2 htq2 hfq2
          have CBy := hid (CB.out wq2 _ _ ys (Oq2.out.bs (fun _ _ _ h => h)) (Sq2.out.bs.mono (fun _ _ h => h.elim)))
          go_wp2_with fail
          refine CBy.out.mono ?_
          rintro e wq3 ⟨rfl, hbq3⟩
          have CRt := hid (CR.out wq3 _ _ m ((Mq2.out.mono (fun _ _ h => h.elim)).fr (Fr.of_below hbq3 : Fr (fun _ => False) _ _) (fun _ _ h => h.elim)))
          have Sq3 := hid (Sq2.out.below hbq3)
          rw [HMR.out] at CRt
          clear hbq3
          go_wp2_with fail
          refine CRt.out.mono ?_
          rintro e wq4 ⟨rfl, hbq4⟩
          have Sq4 := hid (Sq3.out.below hbq4)
          clear hbq4
          go_wp2_with fail
          refine (CA.out _).mono ?_
          rintro e wq5 ⟨rfl, hbq5⟩
          have Sq5 := hid (Sq4.out.below hbq5)
          clear hbq5
          go_wp2
          go_ret
          exact ⟨rfl, Sq5.out.fin⟩
        · have hn := getSegF_none hg
          have hgb : ((getSegF ys).2 != 0) = true := by simpa using hg
          rw [hn]
          generalize (getSegF ys).2 = g at *
          clear hn hg
          go_wp2_with (go_at_fn 9; refine (CA.out _).mono ?_; rintro e wq2 ⟨rfl, hbq2⟩; have Sq2 := hid (Sq1.out.below hbq2); clear hbq2)
          go_ret
          exact ⟨rfl, Sq2.out.fin⟩
    · have hp1 : decide (0 ≤ at_) = false := decide_eq_false p1
      go_wp2_with fail
      refine (CG.out _ _ _ ys hly S8.out.tab S8.out.bs).mono ?_
      rintro e wq1 ⟨aq1, cq1, rfl, hoq1, htq1, hfq1⟩
      have Sq1 := hid (S8.out.step htq1 hfq1)
      have Oq1 := hid hoq1
      clear hoq1 htq1 hfq1
      by_cases hg : (getSegF ys).2 = 0
      · obtain ⟨m, hm⟩ : ∃ m, getSegF ys = (m, 0) := ⟨_, by rw [← hg]⟩
        obtain ⟨hmr, hmb⟩ := getSegF_back hm
        rw [hm] at Oq1 ⊢
        have HMR := hid hmr
        have HMB := hid hmb
        have hze := Sq1.out.lt
        have Pq1 := CP.out wq1 aq1 cq1 m (Own.row Oq1.out (fun k h1 h2 e => by have := S8.out.lt; omega)) hmr Sq1.out.tab
        rw [← hmb] at Pq1
        have PPq1 := hid Pq1
        clear hg hm hmr hmb Pq1
        go_wp2_with fail
        refine PPq1.out.mono ?_
        rintro e wq2 ⟨aq2, cq2, rfl, hoq2, htq2, hfq2⟩
        have Sq2 := hid (Sq1.out.step htq2 hfq2)
        have Oq2 := hid hoq2
        have Mq2 := hid (Es.fr (show Es (· = t) wq1 _ m from Own.row Oq1.out (fun k h1 h2 e => by have := S8.out.lt; omega)) hfq2 (fun _ _ h => h))
        clear hoq2 htq2 hfq2
        have CBy := hid (CB.out wq2 _ _ ys (Oq2.out.bs (fun _ _ _ h => h)) (Sq2.out.bs.mono (fun _ _ h => h.elim)))
        go_wp2_with fail
        refine CBy.out.mono ?_
        rintro e wq3 ⟨rfl, hbq3⟩
        have CRt := hid (CR.out wq3 _ _ m ((Mq2.out.mono (fun _ _ h => h.elim)).fr (Fr.of_below hbq3 : Fr (fun _ => False) _ _) (fun _ _ h => h.elim)))
        have Sq3 := hid (Sq2.out.below hbq3)
        rw [HMR.out] at CRt
        clear hbq3
        go_wp2_with fail
        refine CRt.out.mono ?_
        rintro e wq4 ⟨rfl, hbq4⟩
        have Sq4 := hid (Sq3.out.below hbq4)
        clear hbq4
        go_wp2_with fail
        refine (CA.out _).mono ?_
        rintro e wq5 ⟨rfl, hbq5⟩
        have Sq5 := hid (Sq4.out.below hbq5)
        clear hbq5
        go_wp2
        go_ret
        exact ⟨rfl, Sq5.out.fin⟩
      · have hn := getSegF_none hg
        have hgb : ((getSegF ys).2 != 0) = true := by simpa using hg
        rw [hn]
        generalize (getSegF ys).2 = g at *
        clear hn hg
        go_wp2_with (go_at_fn 9; refine (CA.out _).mono ?_; rintro e wq2 ⟨rfl, hbq2⟩; have Sq2 := hid (Sq1.out.below hbq2); clear hbq2)
        go_ret
        exact ⟨rfl, Sq2.out.fin⟩
end Go.Proofs.Ytelijfdpgachnaa
