/- simfs: named, find, step, do. -/
import Derived.Test.YtgehalfnpbjjcaaSimA
namespace Go.Proofs.Ytgehalfnpbjjcaa
open Go Go.RowKit Go.Sort
def namesF (st : FSt) (l : List ByteArray) : Int := if st.down then 12 else if l.all nameR then 0 else 10
theorem row_string {S : Nat → Prop} {w : World} {a : Option Addr} {n c : Nat} {l : List ByteArray} (h : Row S w (.slice a n c) n 1 (l.map Value.string)) {j : Nat} {s : ByteArray} (hs : l[j]? = some s) : ∃ b off, a = some ⟨b, off, none⟩ ∧ b < w.heap.size ∧ w.cell? ⟨b, off + j, none⟩ = some (.string s) := by
  obtain ⟨h0, a', c', hv, _, _, h4⟩ := h
  injection hv with e1 e2 e3
  subst e1 e3
  have hj := (List.getElem?_eq_some_iff.1 hs).1
  obtain ⟨b, off, rfl, hb, _, hc⟩ := h4.resolve_left (by rw [List.length_map] at h0; omega)
  exact ⟨b, off, rfl, hb, hc j _ (by rw [List.getElem?_map, hs]; rfl)⟩
set_option maxRecDepth 100000 in
theorem fsNamed_ok {F D S : Nat → Prop} {sb : Nat} {st : FSt} (w : World) (h : FSr w F D sb st) (v : Value) (l : List ByteArray) (hv : Row S w v l.length 1 (l.map Value.string)) :
    Calls Try.prog 37 #[.pointer (some ⟨sb, 0, none⟩), v] w fun e w' => e = .returned (.int .i64 (namesF st l)) ∧ Below w.heap.size w w' := by
  have HV := hid hv
  have HI := hid (fsIs_ok w h)
  obtain ⟨_, a, c, rfl, ⟨hl1, hl2, hl3⟩, _⟩ := hv
  unfold maxLen at hl3
  unfold isF at HI
  unfold namesF
  cases hd : st.down with
  | true =>
    rw [hd] at HI
    simp only [if_true] at HI ⊢
    go_enter Try.func37, Try.ntmps37
    go_wp2_with (go_at_call 53; refine HI.out.mono ?_; rintro e w1 ⟨rfl, rfl⟩)
    go_ret
    exact ⟨rfl, Below.refl _ _⟩
  | false =>
    rw [hd] at HI
    simp only [Bool.false_eq_true, if_false] at HI ⊢
    obtain ⟨r, hr⟩ : ∃ r : Int, r = if l.all nameR then 0 else 10 := ⟨_, rfl⟩
    rw [← hr]
    have HR := hid hr
    clear hr
    go_enter Try.func37, Try.ntmps37
    go_wp2_with (go_at_call 53; refine HI.out.mono ?_; rintro e w1 ⟨rfl, rfl⟩)
    clear HI
    go_loopg [15] l.length (fun kx s15 wr => ∃ j : Nat, s15 = .int .i64 j ∧ j ≤ l.length ∧ l.length - j ≤ kx ∧ Hid ((l.take j).all nameR = true) ∧ Hid (Below w1.heap.size w1 wr))
    case atStart => exact ⟨0, rfl, Nat.zero_le _, Nat.le_refl _, hid rfl, hid (Below.refl _ _)⟩
    case round =>
      obtain ⟨j, rfl, hj, hkx, HA, HB⟩ := hrel
      by_cases hlt : j < l.length
      · obtain ⟨s, hs⟩ : ∃ s, l[j]? = some s := ⟨l[j], by simp [hlt]⟩
        obtain ⟨b, off, rfl, hb, hc⟩ := row_string (HV.out.fr (Fr.of_below HB.out : Fr (fun _ => False) _ _) (fun _ _ h => h.elim)) hs
        have HS := hid hs
        have hlt' : (j : Int) < (l.length : Int) := by omega
        have HN := hid (fsName_ok s wr)
        have htk : (l.take (j + 1)).all nameR = nameR s := by
          rw [List.take_add_one, hs, List.all_append, HA.out]; simp
        have HTK := hid htk
        clear hs htk
        cases hn : nameR s with
        | true =>
          rw [hn] at HN HTK
          go_wp2_with (go_at_call 8; refine HN.out.mono ?_; rintro e w2 ⟨rfl, hb2⟩; have B2 := hid hb2; clear hb2)
          go_roundg (l.length - (j + 1))
          case measure => omega
          case rel => exact ⟨j + 1, by go_num, hlt, Nat.le_refl _, HTK, hid (HB.out.trans (B2.out.mono HB.out.size))⟩
        | false =>
          rw [hn] at HN HTK
          have hall : l.all nameR = false := by
            rw [← List.take_append_drop (j + 1) l, List.all_append, HTK.out]; rfl
          have HALL := hid hall
          clear hall
          go_wp2_with (go_at_call 8; refine HN.out.mono ?_; rintro e w2 ⟨rfl, hb2⟩; have B2 := hid hb2; clear hb2)
          go_ret
          exact ⟨by rw [HR.out, HALL.out]; rfl, HB.out.trans (B2.out.mono HB.out.size)⟩
      · obtain rfl : j = l.length := by omega
        have hall : l.all nameR = true := by have := HA.out; rwa [List.take_of_length_le (Nat.le_refl _)] at this
        have HALL := hid hall
        clear hall
        go_wp2
        go_ret
        exact ⟨by rw [HR.out, HALL.out]; rfl, HB.out⟩
theorem ekP_def (p : Nat) : ekP p = .pointer (some ⟨p, 0, none⟩) := rfl
/-- What find answers. -/
def findC (r : Int × Option Nat) : Value := .tuple #[.pointer (r.2.map fun p => ⟨p, 0, none⟩), .int .i64 r.1]
set_option maxRecDepth 100000 in
theorem fsFind_ok {F D : Nat → Prop} {sb : Nat} {st : FSt} (w : World) (h : FSr w F D sb st) (s : ByteArray) :
    Calls Try.prog 33 #[.pointer (some ⟨sb, 0, none⟩), .string s] w fun e w' => e = .returned (findC (findF st s)) ∧ Below w.heap.size w w' := by
  have hb0 : Below w.heap.size w (w.alloc (.cells #[.string s] 9 (0, 0))) := (Below.refl _ _).alloc (Nat.le_refl _) _
  have hrow : Row (fun _ => False) (w.alloc (.cells #[.string s] 9 (0, 0))) (.slice (some ⟨w.heap.size, 0, none⟩) 1 1) 1 1 ([s].map Value.string) :=
    ⟨rfl, _, 1, rfl, ⟨by omega, by omega, by unfold maxLen; omega⟩, (fun h => nomatch h), .inr ⟨w.heap.size, 0, rfl, by simp, id, fun j x hx => by rw [cell_of_heap (heap_alloc_new w _), Nat.zero_add]; simpa using hx⟩⟩
  have HN := hid (fsNamed_ok _ (h.below hb0) _ [s] hrow)
  have HL := hid h
  clear hrow
  unfold findF
  unfold namesF at HN
  simp only [List.all_cons, List.all_nil, Bool.and_true] at HN
  cases hd : st.down with
  | true =>
    rw [hd] at HN
    simp only [if_true] at HN ⊢
    go_enter Try.func33, Try.ntmps33
    go_wp2_with (go_at_call 37; refine HN.out.mono ?_; rintro e w1 ⟨rfl, hb1⟩)
    go_ret2
    exact ⟨rfl, Below.below hb0 hb1⟩
  | false =>
    rw [hd] at HN
    simp only [Bool.false_eq_true, if_false] at HN ⊢
    cases hn : nameR s with
    | false =>
      rw [hn] at HN
      simp only [Bool.false_eq_true, if_false] at HN ⊢
      go_enter Try.func33, Try.ntmps33
      go_wp2_with (go_at_call 37; refine HN.out.mono ?_; rintro e w1 ⟨rfl, hb1⟩)
      go_ret2
      exact ⟨rfl, Below.below hb0 hb1⟩
    | true =>
      rw [hn] at HN
      simp only [if_true] at HN ⊢
      have PREP := hid (show ∀ w1, Below (w.alloc (.cells #[.string s] 9 (0, 0))).heap.size (w.alloc (.cells #[.string s] 9 (0, 0))) w1 → ∃ m1, w1.cell? ⟨sb, 1, none⟩ = some (.map (some m1)) ∧ (Instr.lookup 64 (.map (some m1)) (.string s) true).run Try.prog w1 = .ok (match dget st.seen s with | some p => .tuple #[.pointer (some ⟨p, 0, none⟩), .bool true] | none => .tuple #[.pointer none, .bool false]) w1 from fun w1 hb1 => by
        obtain ⟨m1, m2, ca, cc, ho⟩ := (HL.out.below (Below.below hb0 hb1)).lies
        have hlk := run_lookupG (ok := true) (keyS (P := Try.prog) (tk := 9) (fun w => run_underlying Try.underlying9 w)) (fun w => run_underlying Try.underlying64 w) (te := 75) (z := .pointer none) (fun _ => by kernel_rfl) ho.seen (fun _ _ => trivial) s trivial
        refine ⟨m1, cell_of_heap ho.head 1, hlk.trans ?_⟩
        cases dget st.seen s <;> rfl)
      clear HL
      cases hg : dget st.seen s with
      | none =>
        rw [hg] at PREP
        go_enter Try.func33, Try.ntmps33
        go_wp2_with (go_at_call 37; refine HN.out.mono ?_; rintro e w1 ⟨rfl, hb1⟩; obtain ⟨m1, c1, hlk⟩ := PREP.out _ hb1; have B1 := hid (Below.below hb0 hb1); clear hb1)
        go_ret2
        exact ⟨rfl, B1.out⟩
      | some p =>
        rw [hg] at PREP
        go_enter Try.func33, Try.ntmps33
        go_wp2_with (go_at_call 37; refine HN.out.mono ?_; rintro e w1 ⟨rfl, hb1⟩; obtain ⟨m1, c1, hlk⟩ := PREP.out _ hb1; have B1 := hid (Below.below hb0 hb1); clear hb1)
        go_ret2
        exact ⟨rfl, B1.out⟩
end Go.Proofs.Ytgehalfnpbjjcaa
