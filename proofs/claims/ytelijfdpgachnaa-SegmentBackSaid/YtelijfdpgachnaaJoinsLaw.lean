/- SegmentJoins, walked: with the contracts of what it calls. -/
import Derived.Test.YtelijfdpgachnaaJoinsPure
import Derived.Test.YtelijfdpgachnaaL10Own
import Derived.Outline
namespace Go.Proofs.Ytelijfdpgachnaa
open Go Go.RowKit Go.Sort
variable {P : Program} {k h : Nat}
/-- Contracts of what the law calls, over a program that is a variable. -/
structure JC (P : Program) : Prop where
  sort : ∀ (W : World) (v : Value) (l : List Ent), Es (fun _ => False) W v l → l.length ≤ 1000 → Calls P 20 #[v] W (RetE' W (sortE l))
  join : ∀ (W : World) (v1 v2 : Value) (l1 l2 : List Ent), Es (fun _ => False) W v1 l1 → Es (fun _ => False) W v2 l2 → l1.length + l2.length ≤ 1000 → Calls P 23 #[v1, v2] W (RetE' W (sortE (l1 ++ l2)))
  alive : ∀ W : World, Calls P 9 #[] W fun e w' => e = .returned (.bool true) ∧ Below W.heap.size W w'
  put : ∀ (v : Value) (W : World), Calls P 11 #[.pointer none, v] W fun e w' => e = .returned (.tuple #[.slice none 0 0, .int .i64 18]) ∧ W = w'
  get : ∀ (W : World), Calls P 14 #[.pointer none, .slice none 0 0] W fun e w' => e = .returned (.tuple #[.slice none 0 0, .int .i64 18]) ∧ W = w'
  e1 : ∀ args w, (callFunc 9 args).run P w = .ok (.enter 9 args) w
  e2 : ∀ args w, (callFunc 11 args).run P w = .ok (.enter 11 args) w
  e3 : ∀ args w, (callFunc 14 args).run P w = .ok (.enter 14 args) w
  tF : P.underlying 27 = some (TypeDesc.int IntKind.i64)
  aF : ∀ w, (isAgg 27).run P w = .ok false w
  zF : ∀ w, (Go.sizeOf 27).run P w = .ok 1 w
  gW : P.eqGuardType P.depth 48 = false
  eqW : ∀ (x y z : Int) (w : World), (Op.equalIn 10000 48 (.agg #[.int .i64 x, .int .i64 y, .int .i64 z]) (.agg #[.int .i64 x, .int .i64 y, .int .i64 z])).run P w = .ok true w
/-- An argument, as far as the law looks at it. -/
def Arg (w : World) (a : Option Addr) (n c : Nat) : Prop := n ≤ c ∧ c ≤ maxLen ∧ (n ≤ 60 → ∃ l : List Ent, l.length = n ∧ Es (fun _ => False) w (.slice a n c) l)
set_option maxHeartbeats 4000000 in
set_option maxRecDepth 100000 in
theorem joins_long (L : SG P k h) (C : JC P) (w : World) (a1 a2 : Option Addr) (n1 c1 n2 c2 : Nat) (h1 : Arg w a1 n1 c1) (h2 : Arg w a2 n2 c2) (hl : ¬ (n1 ≤ 60 ∧ n2 ≤ 60)) :
    Calls P 5 #[.slice a1 n1 c1, .slice a2 n2 c2] w fun e w' => e = .returned (.bool true) ∧ Below w.heap.size w w' := by
  obtain ⟨b1, b2, _⟩ := h1
  obtain ⟨b3, b4, _⟩ := h2
  unfold maxLen at b2 b4
  have u_tUnit := L.u_tUnit; have r_tUnit := L.r_tUnit; have a_tUnit := L.a_tUnit; have z_tUnit := L.z_tUnit; have v_tUnit := L.v_tUnit; have u_tInt := L.u_tInt; have r_tInt := L.r_tInt; have a_tInt := L.a_tInt; have z_tInt := L.z_tInt; have v_tInt := L.v_tInt; have u_tBool := L.u_tBool; have r_tBool := L.r_tBool; have a_tBool := L.a_tBool; have z_tBool := L.z_tBool; have v_tBool := L.v_tBool; have u_tREnts := L.u_tREnts; have r_tREnts := L.r_tREnts; have a_tREnts := L.a_tREnts; have z_tREnts := L.z_tREnts; have v_tREnts := L.v_tREnts
  have mixed := L.mixed
  have e1 := C.e1
  have CA := hid C.alive
  by_cases q1 : n1 ≤ 60
  · have q2 : ¬ n2 ≤ 60 := fun h => hl ⟨q1, h⟩
    go_enter L.f_segJoins, Try.ntmps5
    go_wp2_with (go_at_fn 9; refine (CA.out _).mono ?_; rintro e w1 ⟨rfl, hb⟩)
    go_ret
    exact ⟨rfl, hb⟩
  · go_enter L.f_segJoins, Try.ntmps5
    go_wp2_with (go_at_fn 9; refine (CA.out _).mono ?_; rintro e w1 ⟨rfl, hb⟩)
    go_ret
    exact ⟨rfl, hb⟩
/-- A list of entries lies in memory, read so long as no old block is turned. -/
def Lies (w : World) (a : Option Addr) (n c : Nat) (l : List Ent) : Prop := n = l.length ∧ ∀ W, Below w.heap.size w W → Es (fun _ => False) W (.slice a n c) l
theorem Es.lies {w : World} {a : Option Addr} {n c : Nat} {l : List Ent} (hn : l.length = n) (h : Es (fun _ => False) w (.slice a n c) l) : Lies w a n c l := ⟨hn.symm, fun W hb => h.fr (Fr.of_below hb : Fr (fun _ => False) w W) (fun _ _ h => h.elim)⟩
theorem Lies.on {w W : World} {a : Option Addr} {n c : Nat} {l : List Ent} (h : Lies w a n c l) (hb : Below w.heap.size w W) : Lies W a n c l :=
  ⟨h.1, fun W' hb' => h.2 W' (hb.trans (hb'.mono hb.size))⟩
theorem whC_some (e : Ent) : whC (some e) = .agg #[.int .i64 e.pk, .int .i64 e.pos, .int .i64 e.ln] := rfl
theorem whC_ex (o : Option Ent) : ∃ x y z, whC o = .agg #[.int .i64 x, .int .i64 y, .int .i64 z] := by
  cases o with
  | none => exact ⟨0, 0, 0, rfl⟩
  | some e => exact ⟨_, _, _, rfl⟩
/-- What a round reads of the entry in hand. -/
def Reads (P : Program) (k h : Nat) (b off i : Nat) (e : Ent) (W : World) : Prop :=
  Sem.run P (loadCellsFrom ⟨b, off + i * k, none⟩ 0 h #[]) W = .ok (bcells e.nm.1).toArray W ∧ W.cell? ⟨b, off + i * k + 32, none⟩ = some (.int .i64 e.pk) ∧ W.cell? ⟨b, off + i * k + 33, none⟩ = some (.int .i64 e.pos) ∧ W.cell? ⟨b, off + i * k + 34, none⟩ = some (.int .i64 e.ln)
theorem Lies.reads (L : SG P k h) {w : World} {a : Option Addr} {n c : Nat} {l : List Ent} (hl : Lies w a n c l) {i : Nat} {e : Ent} (he : l[i]? = some e) : ∃ b off, a = some ⟨b, off, none⟩ ∧ ∀ W, Below w.heap.size w W → Reads P k h b off i e W := by
  obtain ⟨a', c', hv, _, _, _, _, h4⟩ := (hl.2 w (Below.refl _ _)).cases
  injection hv with e1 e2 e3
  subst e1 e3
  obtain ⟨b, off, rfl, hb, _, hcell⟩ := h4.resolve_left (fun h => by subst h; simp at he)
  refine ⟨b, off, rfl, fun W hbw => ?_⟩
  have hcr : ∀ i e j x, l[i]? = some e → (entC e)[j]? = some x → W.cell? ⟨b, off + i * 35 + j, none⟩ = some x := fun i e j x h1 h2 => (hbw.cell (p := ⟨b, off + i * 35 + j, none⟩) hb).trans (hcell i e j x h1 h2)
  have hE := entC_at e
  unfold Reads
  rw [L.hk, L.hh]
  refine ⟨?_, hcr i e 32 _ he hE.1, hcr i e 33 _ he hE.2.1, hcr i e 34 _ he hE.2.2⟩
  refine run_loadCellsFrom_list P _ _ (bcells e.nm.1) 32 (by rw [bcells_length, e.nm.2]) (fun j v hv => ?_)
  have hadd : (⟨b, off + i * 35, none⟩ : Addr).add j = ⟨b, off + i * 35 + j, none⟩ := by unfold Addr.add; split <;> simp_all
  rw [hadd]
  refine hcr i e j v he ?_
  unfold entC
  rw [List.getElem?_append_left (List.getElem?_eq_some_iff.1 hv).1]; exact hv
theorem three {w W : World} {g t : Nat} {x y z : Value} (hg : w.heap[g]? = some (.cells #[x, y, z] t (0, 0))) (hb : Below w.heap.size w W) : W.cell? ⟨g, 0, none⟩ = some x ∧ W.cell? ⟨g, 1, none⟩ = some y ∧ W.cell? ⟨g, 2, none⟩ = some z := by
  have h : W.heap[g]? = some (.cells #[x, y, z] t (0, 0)) := (hb.block _ (lt_of_heap hg)).trans hg
  exact ⟨cell_of_heap h 0, cell_of_heap h 1, cell_of_heap h 2⟩
set_option maxHeartbeats 8000000 in
set_option maxRecDepth 100000 in
theorem joins_short (L : SG P k h) (C : JC P) (w : World) (a1 a2 : Option Addr) (n1 c1 n2 c2 : Nat) (h1 : Arg w a1 n1 c1) (h2 : Arg w a2 n2 c2) (q1 : n1 ≤ 60) (q2 : n2 ≤ 60) :
    Calls P 5 #[.slice a1 n1 c1, .slice a2 n2 c2] w fun e w' => e = .returned (.bool true) ∧ Below w.heap.size w w' := by
  obtain ⟨b1, b2, o1⟩ := h1
  obtain ⟨b3, b4, o2⟩ := h2
  obtain ⟨l1, hn1, E1⟩ := o1 q1
  obtain ⟨l2, hn2, E2⟩ := o2 q2
  unfold maxLen at b2 b4
  have Y1 := hid (Es.lies hn1 E1)
  have Y2 := hid (Es.lies hn2 E2)
  have hla : (sortE l1).length ≤ 60 := by have := sortE_length l1; omega
  have hlb : (sortE l2).length ≤ 60 := by have := sortE_length l2; omega
  clear o1 o2 E1 E2
  have u_tUnit := L.u_tUnit; have r_tUnit := L.r_tUnit; have a_tUnit := L.a_tUnit; have z_tUnit := L.z_tUnit; have v_tUnit := L.v_tUnit; have u_tInt := L.u_tInt; have r_tInt := L.r_tInt; have a_tInt := L.a_tInt; have z_tInt := L.z_tInt; have v_tInt := L.v_tInt; have u_tBool := L.u_tBool; have r_tBool := L.r_tBool; have a_tBool := L.a_tBool; have z_tBool := L.z_tBool; have v_tBool := L.v_tBool; have u_tHash := L.u_tHash; have r_tHash := L.r_tHash; have a_tHash := L.a_tHash; have z_tHash := L.z_tHash; have v_tHash := L.v_tHash; have u_tWhere := L.u_tWhere; have r_tWhere := L.r_tWhere; have a_tWhere := L.a_tWhere; have z_tWhere := L.z_tWhere; have v_tWhere := L.v_tWhere; have u_tEnt := L.u_tEnt; have r_tEnt := L.r_tEnt; have a_tEnt := L.a_tEnt; have z_tEnt := L.z_tEnt; have v_tEnt := L.v_tEnt; have u_tEnts := L.u_tEnts; have r_tEnts := L.r_tEnts; have a_tEnts := L.a_tEnts; have z_tEnts := L.z_tEnts; have v_tEnts := L.v_tEnts; have u_tREnts := L.u_tREnts; have r_tREnts := L.r_tREnts; have a_tREnts := L.a_tREnts; have z_tREnts := L.z_tREnts; have v_tREnts := L.v_tREnts; have u_tBytes := L.u_tBytes; have r_tBytes := L.r_tBytes; have a_tBytes := L.a_tBytes; have z_tBytes := L.z_tBytes; have v_tBytes := L.v_tBytes; have u_tWhereBool := L.u_tWhereBool; have r_tWhereBool := L.r_tWhereBool; have a_tWhereBool := L.a_tWhereBool; have z_tWhereBool := L.z_tWhereBool; have v_tWhereBool := L.v_tWhereBool
  have mixed := L.mixed
  have e1 := C.e1
  have e2 := C.e2
  have e3 := C.e3
  have tF := C.tF
  have aF := C.aF
  have zF := C.zF
  have e_l10Own : ∀ args w, (callFunc 12 args).run P w = .ok (.enter 12 args) w := enters_of L.f_l10Own rfl rfl
  have e_segSort : ∀ args w, (callFunc 20 args).run P w = .ok (.enter 20 args) w := enters_of L.f_segSort rfl rfl
  have e_segRight : ∀ args w, (callFunc 16 args).run P w = .ok (.enter 16 args) w := enters_of L.f_segRight rfl rfl
  have e_segJoin : ∀ args w, (callFunc 23 args).run P w = .ok (.enter 23 args) w := enters_of L.f_segJoin rfl rfl
  have e_segFind : ∀ args w, (callFunc 24 args).run P w = .ok (.enter 24 args) w := enters_of L.f_segFind rfl rfl
  have CO : Hid (∀ W a n c l, Lies W a n c l → n ≤ 60 → Calls P 12 #[.slice a n c] W (RetE' W l)) := hid fun W a n c l hl hn => l10Own_ok L W _ l (hl.2 W (Below.refl _ _)) (by have := hl.1; omega)
  have CS : Hid (∀ W B a n c l, OwnE W B (.slice a n c) l → l.length = n → n ≤ 60 → Calls P 20 #[.slice a n c] W (RetE' W (sortE l))) := hid fun W B a n c l ho hn h60 => C.sort W _ l (ho.es (fun _ _ _ => id)) (by omega)
  have CR : Hid (∀ W a n c l, Lies W a n c l → Calls P 16 #[.slice a n c] W fun r w' => r = .returned (.bool (rightL l)) ∧ Below W.heap.size W w') := hid fun W a n c l hl => (segRight_ok L W _ l (hl.2 W (Below.refl _ _))).mono fun _ _ ⟨h1, h2⟩ => ⟨h1, h2.below⟩
  have CA := hid C.alive
  subst hn1 hn2
  have hd1 : decide ((60 : Int) < (l1.length : Int)) = false := decide_eq_false (by omega)
  have hd2 : decide ((60 : Int) < (l2.length : Int)) = false := decide_eq_false (by omega)
  go_enter L.f_segJoins, Try.ntmps5
  go_wp2_with fail
  refine (CO.out _ _ _ _ l1 Y1.out q1).mono ?_
  rintro e w1 ⟨x1, y1, rfl, ho1, hb1⟩
  have O1 := hid ho1
  have B1 := hid hb1
  clear ho1 hb1
  go_wp2_with fail
  refine (CS.out _ _ _ _ _ l1 O1.out rfl q1).mono ?_
  rintro e w2 ⟨xa, ya, rfl, ho2, hb2⟩
  have A2 := hid (Es.lies rfl (ho2.es (fun _ _ _ => id)))
  have B2 := hid (B1.out.trans (hb2.mono B1.out.size))
  clear ho2 hb2 O1 B1
  go_wp2_with fail
  refine (CO.out _ _ _ _ l2 (Y2.out.on B2.out) q2).mono ?_
  rintro e w3 ⟨x3, y3, rfl, ho3, hb3⟩
  have O3 := hid ho3
  have B3 := hid (B2.out.trans (hb3.mono B2.out.size))
  have A3 := hid (A2.out.on hb3)
  clear ho3 hb3 A2 B2
  go_wp2_with fail
  refine (CS.out _ _ _ _ _ l2 O3.out rfl q2).mono ?_
  rintro e w4 ⟨xb, yb, rfl, ho4, hb4⟩
  have D4 := hid (Es.lies rfl (ho4.es (fun _ _ _ => id)))
  have B4 := hid (B3.out.trans (hb4.mono B3.out.size))
  have A4 := hid (A3.out.on hb4)
  clear ho4 hb4 A3 B3 O3
  generalize sortE l1 = a at *
  generalize sortE l2 = b at *
  clear Y1 Y2
  cases hra : rightL a with
  | false =>
    have c1 := CR.out _ _ _ _ a A4.out
    rw [hra] at c1
    clear hra
    go_wp2_with fail
    refine c1.mono ?_
    rintro e w5 ⟨rfl, hb5⟩
    have B5 := hid (B4.out.trans (hb5.mono B4.out.size))
    clear hb5 c1
    go_wp2_with (go_at_fn 9; refine (CA.out _).mono ?_; rintro e w6 ⟨rfl, hb6⟩; have B6 := hid hb6; clear hb6)
    go_ret
    exact ⟨rfl, B5.out.trans (B6.out.mono B5.out.size)⟩
  | true =>
    have c1 := CR.out _ _ _ _ a A4.out
    rw [hra] at c1
    have RA := hid hra
    clear hra
    go_wp2_with fail
    refine c1.mono ?_
    rintro e w5 ⟨rfl, hb5⟩
    have B5 := hid (B4.out.trans (hb5.mono B4.out.size))
    have A5 := hid (A4.out.on hb5)
    have D5 := hid (D4.out.on hb5)
    clear hb5 c1 A4 D4 B4
    cases hrb : rightL b with
    | false =>
      have c1 := CR.out _ _ _ _ b D5.out
      rw [hrb] at c1
      clear hrb
      go_wp2_with fail
      refine c1.mono ?_
      rintro e w6 ⟨rfl, hb6⟩
      have B6 := hid (B5.out.trans (hb6.mono B5.out.size))
      clear hb6 c1
      go_wp2_with (go_at_fn 9; refine (CA.out _).mono ?_; rintro e w7 ⟨rfl, hb7⟩; have B7 := hid hb7; clear hb7)
      go_ret
      exact ⟨rfl, B6.out.trans (B7.out.mono B6.out.size)⟩
    | true =>
      have c1 := CR.out _ _ _ _ b D5.out
      rw [hrb] at c1
      have RB := hid hrb
      have JF := hid (joinF RA.out hrb hla hlb)
      clear hrb
      go_wp2_with fail
      refine c1.mono ?_
      rintro e w6 ⟨rfl, hb6⟩
      have B6 := hid (B5.out.trans (hb6.mono B5.out.size))
      have A6 := hid (A5.out.on hb6)
      have D6 := hid (D5.out.on hb6)
      clear hb6 c1 A5 D5 B5
      have c2 := C.join w6 _ _ a b (A6.out.2 _ (Below.refl _ _)) (D6.out.2 _ (Below.refl _ _)) (by omega)
      have hj1 := JF.out.le
      have hj2 := JF.out.ge
      go_wp2_with fail
      refine c2.mono ?_
      rintro e w7 ⟨xj, yj, rfl, ho7, hb7⟩
      have J7 := hid (Es.lies rfl (ho7.es (fun _ _ _ => id)))
      have B7 := hid (B6.out.trans (hb7.mono B6.out.size))
      have A7 := hid (A6.out.on hb7)
      have D7 := hid (D6.out.on hb7)
      clear ho7 hb7 A6 D6 B6 c2 RA RB
      generalize sortE (a ++ b) = j at *
      have hd3 : decide (j.length < a.length) = false := decide_eq_false (by omega)
      have hd4 : decide ((a.length : Int) + (b.length : Int) < (j.length : Int)) = false := decide_eq_false (by omega)
      have c1 := CR.out _ _ _ _ j J7.out
      rw [JF.out.right] at c1
      go_wp2_with fail
      refine c1.mono ?_
      rintro e w8 ⟨rfl, hb8⟩
      have B8 := hid (B7.out.trans (hb8.mono B7.out.size))
      have A8 := hid (A7.out.on hb8)
      have D8 := hid (D7.out.on hb8)
      have J8 := hid (J7.out.on hb8)
      clear hb8 c1 A7 D7 J7 B7
      have hgW := C.gW
      have hew := C.eqW
      have CF : Hid (∀ W a n c l m, Lies W a n c l → Calls P 24 #[.slice a n c, .agg (bcells m.1).toArray] W (FindPost W (findF l m))) := hid fun W a n c l m hl => segFind_ok L W _ l m (hl.2 W (Below.refl _ _))
      go_wp2
      go_loopg [8] j.length (fun kx s8 wr => ∃ i : Nat, s8 = .int .i64 i ∧ i ≤ j.length ∧ j.length - i ≤ kx ∧ Hid (Below w8.heap.size w8 wr))
      case atStart => exact ⟨0, rfl, Nat.zero_le _, Nat.le_refl _, hid (Below.refl _ _)⟩
      case round =>
        obtain ⟨i, rfl, hi, hkx, BR⟩ := hrel
        by_cases hlt : i < j.length
        · obtain ⟨e, he⟩ : ∃ e, j[i]? = some e := ⟨j[i], by simp [hlt]⟩
          have hej : e ∈ j := List.mem_of_getElem? he
          obtain ⟨bj, oj, rfl, hrd⟩ := J8.out.reads L he
          have LD : Hid (∀ W, Below w8.heap.size w8 W → Reads P k h bj oj i e W) := hid hrd
          have F3 : Hid (∀ W, Below w8.heap.size w8 W → Calls P 24 #[.slice (some ⟨bj, oj, none⟩) j.length yj, .agg (bcells e.nm.1).toArray] W fun r w' => r = .returned (.tuple #[.agg #[.int .i64 e.pk, .int .i64 e.pos, .int .i64 e.ln], .bool true]) ∧ Below W.heap.size W w') := hid fun W hb => by
            have := CF.out W _ _ _ j e.nm (J8.out.on hb)
            rw [JF.out.find e hej] at this
            exact this
          have hN : (bcells e.nm.1).length = h := by rw [L.hh, bcells_length, e.nm.2]
          have k0 : ¬ k = 0 := by rw [L.hk]; omega
          have h0 : ¬ h = 0 := by rw [L.hh]; omega
          unfold Reads at LD
          cases hfa : findF a e.nm with
          | some x =>
            obtain rfl := JF.out.one e hej x hfa
            have F1 : Hid (∀ W, Below w8.heap.size w8 W → Calls P 24 #[.slice xa a.length ya, .agg (bcells x.nm.1).toArray] W fun r w' => r = .returned (.tuple #[.agg #[.int .i64 x.pk, .int .i64 x.pos, .int .i64 x.ln], .bool true]) ∧ Below W.heap.size W w') := hid fun W hb => by
              have := CF.out W _ _ _ a x.nm (A8.out.on hb)
              rw [hfa] at this
              exact this
            obtain ⟨Y0, Y1, Y2, hy⟩ := whC_ex (findF b x.nm)
            have F2 : Hid (∀ W, Below w8.heap.size w8 W → Calls P 24 #[.slice xb b.length yb, .agg (bcells x.nm.1).toArray] W fun r w' => r = .returned (.tuple #[.agg #[.int .i64 Y0, .int .i64 Y1, .int .i64 Y2], .bool (findF b x.nm).isSome]) ∧ Below W.heap.size W w') := hid fun W hb => by
              have := CF.out W _ _ _ b x.nm (D8.out.on hb)
              unfold FindPost at this
              rw [hy] at this
              exact this
            generalize (findF b x.nm).isSome = i2 at *
            clear hfa hy hrd he hej
            generalize bcells x.nm.1 = N at *
            have q0 := LD.out wr (BR.out)
            obtain ⟨ld0, _, _, _⟩ := q0
            go_wp2_with fail
            refine (F1.out _ BR.out).mono ?_
            rintro r w9 ⟨rfl, hb9⟩
            have z9 : wr.heap.size ≤ w9.heap.size := hb9.size
            have zr := BR.out.size
            have B9 := hid ((BR.out.trans (hb9.mono zr)).alloc (by omega) (.cells #[.int .i64 x.pk, .int .i64 x.pos, .int .i64 x.ln] 48 (0, 0)))
            obtain ⟨ld9, _, _, _⟩ := LD.out _ B9.out
            clear ld0 hb9
            go_wp2_with fail
            refine (F2.out _ B9.out).mono ?_
            rintro r w10 ⟨rfl, hb10⟩
            have z10 : w9.heap.size + 1 ≤ w10.heap.size := by have := hb10.size; simpa using this
            obtain ⟨k90, k91, k92⟩ := three (heap_alloc_new w9 (.cells #[.int .i64 x.pk, .int .i64 x.pos, .int .i64 x.ln] 48 (0, 0))) hb10
            have B10 := hid ((B9.out.trans (hb10.mono (by simp; omega))).alloc (by omega) (.cells #[.int .i64 Y0, .int .i64 Y1, .int .i64 Y2] 48 (0, 0)))
            obtain ⟨ld10, _, _, _⟩ := LD.out _ B10.out
            have H10 := hid (show (w10.alloc (.cells #[.int .i64 Y0, .int .i64 Y1, .int .i64 Y2] 48 (0, 0))).heap[w9.heap.size]? = some (.cells #[.int .i64 x.pk, .int .i64 x.pos, .int .i64 x.ln] 48 (0, 0)) by
              rw [heap_alloc_old _ _ (by omega), hb10.block _ (by simp)]; exact heap_alloc_new w9 _)
            clear ld9 hb10 k90 k91 k92
            go_wp2_with fail
            refine (F3.out _ B10.out).mono ?_
            rintro r w11 ⟨rfl, hb11⟩
            have z11 : w10.heap.size + 1 ≤ w11.heap.size := by have := hb11.size; simpa using this
            obtain ⟨k90, k91, k92⟩ := three H10.out (hb11.alloc (by simp; omega) (.cells #[.int .i64 x.pk, .int .i64 x.pos, .int .i64 x.ln] 48 (0, 0)))
            obtain ⟨k110, k111, k112⟩ := three (heap_alloc_new w10 (.cells #[.int .i64 Y0, .int .i64 Y1, .int .i64 Y2] 48 (0, 0))) (hb11.alloc (by simp; omega) (.cells #[.int .i64 x.pk, .int .i64 x.pos, .int .i64 x.ln] 48 (0, 0)))
            obtain ⟨k130, k131, k132⟩ := three (heap_alloc_new w11 (.cells #[.int .i64 x.pk, .int .i64 x.pos, .int .i64 x.ln] 48 (0, 0))) (Below.refl _ _)
            have B11 := hid ((B10.out.trans (hb11.mono (by simp; omega))).alloc (by omega) (.cells #[.int .i64 x.pk, .int .i64 x.pos, .int .i64 x.ln] 48 (0, 0)))
            obtain ⟨_, m0, m1, m2⟩ := LD.out _ B11.out
            clear ld10 hb11
            go_wp2_with fail
            generalize w11.alloc (.cells #[.int .i64 x.pk, .int .i64 x.pos, .int .i64 x.ln] 48 (0, 0)) = wz at *
            refine wp_region_quiet_lit (by assumption) (by kernel_rfl) ?_
            repeat (first | go_big_quiet_step (fail) | quiet_step (fail))
            refine wpQuiet_nil ?_
            intro _ hw'
            obtain ⟨nq, hw''⟩ := hw'
            subst hw''
            go_wp2
            go_roundg (j.length - (i + 1))
            case measure => omega
            case rel => exact ⟨i + 1, by go_num, by omega, Nat.le_refl _, hid (below_dN B11.out nq)⟩
          | none =>
            have hfb := JF.out.two e hej hfa
            have F1 : Hid (∀ W, Below w8.heap.size w8 W → Calls P 24 #[.slice xa a.length ya, .agg (bcells e.nm.1).toArray] W fun r w' => r = .returned (.tuple #[.agg #[.int .i64 0, .int .i64 0, .int .i64 0], .bool false]) ∧ Below W.heap.size W w') := hid fun W hb => by
              have := CF.out W _ _ _ a e.nm (A8.out.on hb)
              rw [hfa] at this
              exact this
            have F2 : Hid (∀ W, Below w8.heap.size w8 W → Calls P 24 #[.slice xb b.length yb, .agg (bcells e.nm.1).toArray] W fun r w' => r = .returned (.tuple #[.agg #[.int .i64 e.pk, .int .i64 e.pos, .int .i64 e.ln], .bool true]) ∧ Below W.heap.size W w') := hid fun W hb => by
              have := CF.out W _ _ _ b e.nm (D8.out.on hb)
              rw [hfb] at this
              exact this
            clear hfa hfb hrd he hej
            generalize bcells e.nm.1 = N at *
            have q0 := LD.out wr (BR.out)
            obtain ⟨ld0, _, _, _⟩ := q0
            go_wp2_with fail
            refine (F1.out _ BR.out).mono ?_
            rintro r w9 ⟨rfl, hb9⟩
            have z9 : wr.heap.size ≤ w9.heap.size := hb9.size
            have zr := BR.out.size
            have B9 := hid ((BR.out.trans (hb9.mono zr)).alloc (by omega) (.cells #[.int .i64 0, .int .i64 0, .int .i64 0] 48 (0, 0)))
            obtain ⟨ld9, _, _, _⟩ := LD.out _ B9.out
            clear ld0 hb9
            go_wp2_with fail
            refine (F2.out _ B9.out).mono ?_
            rintro r w10 ⟨rfl, hb10⟩
            have z10 : w9.heap.size + 1 ≤ w10.heap.size := by have := hb10.size; simpa using this
            obtain ⟨k90, k91, k92⟩ := three (heap_alloc_new w9 (.cells #[.int .i64 0, .int .i64 0, .int .i64 0] 48 (0, 0))) hb10
            have B10 := hid ((B9.out.trans (hb10.mono (by simp; omega))).alloc (by omega) (.cells #[.int .i64 e.pk, .int .i64 e.pos, .int .i64 e.ln] 48 (0, 0)))
            obtain ⟨ld10, _, _, _⟩ := LD.out _ B10.out
            have H10 := hid (show (w10.alloc (.cells #[.int .i64 e.pk, .int .i64 e.pos, .int .i64 e.ln] 48 (0, 0))).heap[w9.heap.size]? = some (.cells #[.int .i64 0, .int .i64 0, .int .i64 0] 48 (0, 0)) by
              rw [heap_alloc_old _ _ (by omega), hb10.block _ (by simp)]; exact heap_alloc_new w9 _)
            clear ld9 hb10 k90 k91 k92
            go_wp2_with fail
            refine (F3.out _ B10.out).mono ?_
            rintro r w11 ⟨rfl, hb11⟩
            have z11 : w10.heap.size + 1 ≤ w11.heap.size := by have := hb11.size; simpa using this
            obtain ⟨k90, k91, k92⟩ := three H10.out (hb11.alloc (by simp; omega) (.cells #[.int .i64 e.pk, .int .i64 e.pos, .int .i64 e.ln] 48 (0, 0)))
            obtain ⟨k110, k111, k112⟩ := three (heap_alloc_new w10 (.cells #[.int .i64 e.pk, .int .i64 e.pos, .int .i64 e.ln] 48 (0, 0))) (hb11.alloc (by simp; omega) (.cells #[.int .i64 e.pk, .int .i64 e.pos, .int .i64 e.ln] 48 (0, 0)))
            obtain ⟨k130, k131, k132⟩ := three (heap_alloc_new w11 (.cells #[.int .i64 e.pk, .int .i64 e.pos, .int .i64 e.ln] 48 (0, 0))) (Below.refl _ _)
            have B11 := hid ((B10.out.trans (hb11.mono (by simp; omega))).alloc (by omega) (.cells #[.int .i64 e.pk, .int .i64 e.pos, .int .i64 e.ln] 48 (0, 0)))
            obtain ⟨_, m0, m1, m2⟩ := LD.out _ B11.out
            clear ld10 hb11
            go_wp2_with fail
            generalize w11.alloc (.cells #[.int .i64 e.pk, .int .i64 e.pos, .int .i64 e.ln] 48 (0, 0)) = wz at *
            refine wp_region_quiet_lit (by assumption) (by kernel_rfl) ?_
            repeat (first | go_big_quiet_step (fail) | quiet_step (fail))
            refine wpQuiet_nil ?_
            intro _ hw'
            obtain ⟨nq, hw''⟩ := hw'
            subst hw''
            go_wp2
            go_roundg (j.length - (i + 1))
            case measure => omega
            case rel => exact ⟨i + 1, by go_num, by omega, Nat.le_refl _, hid (below_dN B11.out nq)⟩
        · obtain rfl : i = j.length := by omega
          go_wp2
          go_loopg [15] b.length (fun kx s15 wr => ∃ i : Nat, s15 = .int .i64 i ∧ i ≤ b.length ∧ b.length - i ≤ kx ∧ Hid (Below w8.heap.size w8 wr))
          case atStart => exact ⟨0, rfl, Nat.zero_le _, Nat.le_refl _, BR⟩
          case round =>
            clear BR
            obtain ⟨i, rfl, hi, hkx, BR⟩ := hrel
            by_cases hlt : i < b.length
            · obtain ⟨e, he⟩ : ∃ e, b[i]? = some e := ⟨b[i], by simp [hlt]⟩
              have heb : e ∈ b := List.mem_of_getElem? he
              obtain ⟨bj, oj, rfl, hrd⟩ := D8.out.reads L he
              obtain ⟨x, hx⟩ := JF.out.all e heb
              have F3 : Hid (∀ W, Below w8.heap.size w8 W → Calls P 24 #[.slice xj j.length yj, .agg (bcells e.nm.1).toArray] W fun r w' => r = .returned (.tuple #[.agg #[.int .i64 x.pk, .int .i64 x.pos, .int .i64 x.ln], .bool true]) ∧ Below W.heap.size W w') := hid fun W hb => by
                have := CF.out W _ _ _ j e.nm (J8.out.on hb)
                rw [hx] at this
                exact this
              have hN : (bcells e.nm.1).length = h := by rw [L.hh, bcells_length, e.nm.2]
              have k0 : ¬ k = 0 := by rw [L.hk]; omega
              have h0 : ¬ h = 0 := by rw [L.hh]; omega
              obtain ⟨ld0, _, _, _⟩ := hrd wr BR.out
              clear hx hrd he heb
              generalize bcells e.nm.1 = N at *
              go_wp2_with fail
              refine (F3.out _ BR.out).mono ?_
              rintro r w9 ⟨rfl, hb9⟩
              have zr := BR.out.size
              have z9 : wr.heap.size ≤ w9.heap.size := hb9.size
              have B9 := hid ((BR.out.trans (hb9.mono zr)).alloc (by omega) (.cells #[.int .i64 x.pk, .int .i64 x.pos, .int .i64 x.ln] 48 (0, 0)))
              clear hb9 ld0
              go_wp2
              go_roundg (b.length - (i + 1))
              case measure => omega
              case rel => exact ⟨i + 1, by go_num, by omega, Nat.le_refl _, B9⟩
            · have CP := hid C.put
              have CG := hid C.get
              go_wp2_with (first | (go_at_fn 11; refine (CP.out _ _).mono ?_; rintro r w9 ⟨rfl, rfl⟩) | (go_at_fn 14; refine (CG.out _).mono ?_; rintro r w10 ⟨rfl, rfl⟩) | (go_at_fn 9; refine (CA.out _).mono ?_; rintro r w11 ⟨rfl, hb11⟩; have B11 := hid hb11; clear hb11))
              go_ret
              have z8 := B8.out.size
              have zr := BR.out.size
              exact ⟨rfl, (B8.out.trans (BR.out.mono z8)).trans (B11.out.mono (by omega))⟩
end Go.Proofs.Ytelijfdpgachnaa
