/- ref01's form: a number. -/
import Derived.Test.YtpomfegcifpfkaaTlvGet
import Derived.Shelf.RegionOpenPlain
namespace Go.Proofs.Ytpomfegcifpfkaa
open Go Go.RowKit
theorem own_at {w : World} {g n size base : Nat} {cs : Array Value} {e : TypeId} (hg : w.heap[g]? = some (.cells cs e (0, 0))) (hn : cs.size = n * size) (hb : base ≤ g) (hl : n ≤ 140737488355328) : Own w base e size (.slice (some ⟨g, 0, none⟩) n n) n cs.toList :=
  ⟨by simp [hn], .inr ⟨g, n, cs, rfl, hb, hg, ⟨Nat.le_refl _, hl, by unfold maxLen; omega⟩, hn, List.take_of_length_le (by simp [hn])⟩⟩
/-- What the document's form answers. -/
def formF (d : Nat) (v : TV) : Option (List UInt8) := if (inn d v).isSome then some (enc v) else none
def RetE (w : World) (r : Option (List UInt8)) (e : Ending) (w' : World) : Prop :=
  Below w.heap.size w w' ∧ match r with
  | none => e = .returned (.tuple #[.slice none 0 0, .bool false])
  | some bs => ∃ a c, e = .returned (.tuple #[.slice a bs.length c, .bool true]) ∧ OwnB w' w.heap.size (.slice a bs.length c) bs
theorem formF_num (d n : Nat) (hn : n < 18446744073709551616) : formF d (.mk 1 n [] []) = some (1 :: 0 :: UInt8.ofNat (numBytes n).length :: numBytes n) := by
  have h8 := numBytes_le n hn
  have hi : (inn d (.mk 1 n [] [])).isSome = true := by
    rw [inn]
    simp [onlyB, inns]; omega
  unfold formF
  rw [if_pos hi, enc, encs]
  have e2 : (numBytes n ++ ([] : List UInt8) ++ []).length = (numBytes n).length := by simp
  rw [e2, Nat.div_eq_of_lt (by omega), Nat.mod_eq_of_lt (by omega)]
  simp
theorem formF_num0 (d n : Nat) (b : List UInt8) (l : List TV) (h : ¬ (b = [] ∧ l = [])) : formF d (.mk 1 n b l) = none := by
  have hi : inn d (.mk 1 n b l) = none := by
    rw [inn]
    simp only [ite_eq_right_iff]
    intro hh
    have := hh.1
    simp [onlyB] at this
    exact absurd this h
  unfold formF
  rw [hi]; rfl
set_option maxRecDepth 100000 in
set_option maxHeartbeats 2000000 in
theorem form_num {S : Nat → Prop} (d n : Nat) (b : List UInt8) (l : List TV) (x : Value) (w : World) (hv : TVv S w (.mk 1 n b l) x) : Calls Try.prog 49 #[x, .int .i64 (d : Int)] w (RetE w (formF d (.mk 1 n b l))) := by
  obtain ⟨c0, c1, c2, c3, rfl, h⟩ := hv
  obtain ⟨hn, vb, vl, ks, hc, hb, hrow, hch⟩ := h.cells
  simp only [List.cons.injEq, and_true] at hc
  obtain ⟨rfl, rfl, rfl, rfl⟩ := hc
  obtain ⟨ab, cb, rfl, _⟩ := hb
  obtain ⟨_, al, cl, rfl, _⟩ := hrow
  simp only [TV.tag, TV.num, TV.byt, TV.lst] at *
  clear h hch
  go_enter Try.func49, Try.ntmps49
  have hx := heap_alloc_new w (.cells #[.int .i64 1, .int .u64 (n : Int), .slice ab b.length cb, .slice al l.length cl] 84 (0, 0))
  have HX := hid hx
  clear hx
  go_wp2
  go_loopw [6, 7] (fun s6 s7 wr => ∃ (m : Nat) (acc : List UInt8) (a : Option Addr) (c : Nat), s7 = .int .u64 (m : Int) ∧ s6 = .slice a acc.length c ∧ m < 18446744073709551616 ∧ numBytes n = numBytes m ++ acc ∧ OwnB wr (w.heap.size + 1) (.slice a acc.length c) acc ∧
    Fr (fun _ => False) (w.alloc (.cells #[.int .i64 1, .int .u64 (n : Int), .slice ab b.length cb, .slice al l.length cl] 84 (0, 0))) wr) (fun _ s _ => (intOf s).toNat)
  case atStart => exact ⟨n, [], none, 0, rfl, rfl, hn, by simp, Own.nil _ _ _ _, Fr.refl _ _⟩
  case round =>
    obtain ⟨m, acc, a, c, rfl, rfl, hm, hnum, ho, hF⟩ := hrel
    have HO := hid ho
    have HNUM := hid hnum
    have HF := hid hF
    clear ho hnum hF
    have hsz := HF.out.size
    simp at hsz
    cases Nat.eq_zero_or_pos m with
    | inr hpos =>
      have hne : ((m : Int) == 0) = false := by simp only [beq_eq_false_iff_ne, ne_eq]; omega
      have hgt : decide ((0 : Int) < (m : Int)) = true := by simp; omega
      have hw8 : IntKind.u8.wrap ((m : Int) % 256) = ((UInt8.ofNat (m % 256)).toNat : Int) := by
        simp [IntKind.wrap, IntKind.signed, IntKind.bits]
      have hlen : acc.length ≤ 8 := by
        have := numBytes_le n hn
        rw [HNUM.out, List.length_append] at this; omega
      go_wp2_with (at_builtin; refine wpl_append (v := .slice (some ⟨wr.heap.size, 0, none⟩) 1 1) (S := fun _ => False) rfl rfl etB rfl (own_at (base := w.heap.size + 1) (heap_alloc_new wr _) rfl (by omega) (by omega)) rfl ((HO.out.row (S := fun _ => False) (fun _ _ _ h => h)).fr ((Fr.refl (fun _ => False) wr).alloc _) (fun _ _ h => h.elim)) (bcells_one acc) (by omega) (by simp; omega) ?_; intro v5 w5 ho5 hf5 hm5; rw [Nat.add_comm 1] at ho5; obtain ⟨a5, c5, rfl, _⟩ := ho5.len)
      go_roundw
      case rel =>
        refine ⟨m / 256, UInt8.ofNat (m % 256) :: acc, a5, c5, by go_num, rfl, by omega, by rw [HNUM.out, numBytes_pos m (by omega)]; simp, ?_, ?_⟩
        · have hbc : bcells (UInt8.ofNat (m % 256) :: acc) = .int .u8 ((m : Int) % 256) :: bcells acc := by simp [bcells, bcell]
          unfold OwnB
          rw [hbc]; exact ho5
        · exact (HF.out.alloc _).trans' hf5 (fun k hk hs => by
            obtain ⟨off, n', c', hv, _⟩ := hs
            injection hv with e1 _ _; injection e1 with e1; injection e1 with e1 _ _
            have hk' := hk
            simp only [World.size_alloc] at hk'
            have := HF.out.size
            simp only [World.size_alloc] at this
            omega)
      case measure => simp [intOf]; omega
    | inl h0 =>
      subst h0
      have hnum := HNUM.out
      rw [numBytes_zero, List.nil_append] at hnum
      subst hnum
      clear HNUM
      have hlen := numBytes_le n hn
      have HFF := hid (formF_num d n hn)
      have HFF0 := hid (formF_num0 d n b l)
      have HFX := hid (heap_alloc_new w (.cells #[.int .i64 1, .int .u64 (n : Int), .slice ab b.length cb, .slice al l.length cl] 84 (0, 0)))
      have b0 : wr.cell? ⟨w.heap.size, 0, none⟩ = some (.int .i64 1) := cell_of_heap (HF.out.heap HFX.out id) 0
      have b2 : wr.cell? ⟨w.heap.size, 2, none⟩ = some (.slice ab b.length cb) := cell_of_heap (HF.out.heap HFX.out id) 2
      have b3 : wr.cell? ⟨w.heap.size, 3, none⟩ = some (.slice al l.length cl) := cell_of_heap (HF.out.heap HFX.out id) 3
      have hB : Below w.heap.size w wr := Below.fr ((Below.refl _ _).alloc (Nat.le_refl _) _) HF.out (fun _ _ h => h.elim)
      have HB := hid hB
      clear hB HF
      generalize hnb : numBytes n = acc at *
      have h65 : decide ((65535 : Int) < (acc.length : Int)) = false := by simp; omega
      have hq : (acc.length : Int) / 256 = 0 := by omega
      have hr : (acc.length : Int) % 256 = (acc.length : Int) := by omega
      by_cases hbl : b = []
      · have hb0 : decide ((0 : Int) < (b.length : Int)) = false := by rw [hbl]; rfl
        by_cases hll : l = []
        · have hl0 : decide ((0 : Int) < (l.length : Int)) = false := by rw [hll]; rfl
          go_wp2_with (at_builtin; refine wpl_append (v := .slice (some ⟨wr.heap.size, 0, none⟩) 3 3) (S := fun _ => False) rfl rfl etB rfl (own_at (base := w.heap.size + 1) (heap_alloc_new wr _) rfl (by omega) (by omega)) rfl ((HO.out.row (S := fun _ => False) (fun _ _ _ h => h)).fr ((Fr.refl (fun _ => False) wr).alloc _) (fun _ _ h => h.elim)) (bcells_one acc) (by omega) (by simp; omega) ?_; intro v5 w5 ho5 hf5 hm5; rw [show 3 + acc.length = (1 :: 0 :: UInt8.ofNat acc.length :: acc).length by simp; omega] at ho5; obtain ⟨a5, c5, rfl, _⟩ := ho5.len)
          go_ret2
          subst hbl hll
          rw [HFF.out]
          refine ⟨Below.fr (HB.out.alloc (by omega) _) hf5 (fun k hk hs => ?_), a5, c5, rfl, ?_⟩
          · obtain ⟨off, n', c', hv, _⟩ := hs
            injection hv with e1 _ _; injection e1 with e1; injection e1 with e1 _ _
            omega
          · have hbc : bcells (1 :: 0 :: UInt8.ofNat acc.length :: acc) = .int .u8 1 :: .int .u8 0 :: .int .u8 (acc.length : Int) :: bcells acc := by
              have : acc.length % 256 = acc.length := by omega
              simp [bcells, bcell, this]
            unfold OwnB
            rw [hbc]; exact ho5.mono (by omega)
        · have hl0 : 0 < l.length := List.length_pos_iff.2 hll
          go_wp2
          go_ret2
          rw [HFF0.out (fun h => hll h.2)]
          exact ⟨HB.out, rfl⟩
      · have hb0 : 0 < b.length := List.length_pos_iff.2 hbl
        go_wp2
        go_ret2
        rw [HFF0.out (fun h => hbl h.1)]
        exact ⟨HB.out, rfl⟩
end Go.Proofs.Ytpomfegcifpfkaa
/- ref01's form: bytes, and what is no value. -/
namespace Go.Proofs.Ytpomfegcifpfkaa
open Go Go.RowKit
theorem formF_none {d : Nat} {v : TV} (h : inn d v = none) : formF d v = none := by unfold formF; rw [h]; rfl
theorem formF_some {d : Nat} {v : TV} {k : Nat} (h : inn d v = some k) : formF d v = some (enc v) := by unfold formF; rw [h]; rfl
theorem inn_bytes (d n : Nat) (b : List UInt8) (l : List TV) : inn d (.mk 2 n b l) = if n = 0 ∧ l = [] ∧ b.length ≤ 65535 then some b.length else none := by
  by_cases h : n = 0 ∧ l = []
  · obtain ⟨rfl, rfl⟩ := h
    rw [inn]
    simp [onlyB, inns, numBytes_zero]
  · rw [if_neg (fun hh => h ⟨hh.1, hh.2.1⟩), inn]
    simp only [ite_eq_right_iff]
    intro hh
    have := hh.1
    simp [onlyB] at this
    exact absurd this h
theorem bcells_head (t : UInt8) (body : List UInt8) (h : body.length ≤ 65535) (tag : Int) (ht : tag = (t.toNat : Int)) : bcells (t :: UInt8.ofNat (body.length / 256) :: UInt8.ofNat (body.length % 256) :: body) = .int .u8 tag :: .int .u8 ((body.length : Int) / 256) :: .int .u8 ((body.length : Int) % 256) :: bcells body := by
  have h1 : body.length / 256 % 256 = body.length / 256 := by omega
  subst ht
  simp [bcells, bcell, h1]
theorem enc_bytes (b : List UInt8) : enc (.mk 2 0 b []) = 2 :: UInt8.ofNat (b.length / 256) :: UInt8.ofNat (b.length % 256) :: b := by
  rw [enc, encs, numBytes_zero, List.nil_append, List.append_nil]; rfl
set_option maxRecDepth 100000 in
set_option maxHeartbeats 2000000 in
theorem form_bytes {S : Nat → Prop} (d n : Nat) (b : List UInt8) (l : List TV) (x : Value) (w : World) (hv : TVv S w (.mk 2 n b l) x) : Calls Try.prog 49 #[x, .int .i64 (d : Int)] w (RetE w (formF d (.mk 2 n b l))) := by
  obtain ⟨c0, c1, c2, c3, rfl, h⟩ := hv
  obtain ⟨hn, vb, vl, ks, hc, hb, hrow, hch⟩ := h.cells
  simp only [List.cons.injEq, and_true] at hc
  obtain ⟨rfl, rfl, rfl, rfl⟩ := hc
  have HBR := hid hb
  obtain ⟨ab, cb, rfl, ⟨_, hbl47, _⟩, _⟩ := hb
  obtain ⟨_, al, cl, rfl, _⟩ := hrow
  simp only [TV.tag, TV.num, TV.byt, TV.lst] at *
  have HI := hid (inn_bytes d n b l)
  clear h hch
  have hx := hid (((HBR.out.row).fr (S' := fun _ => False) ((Fr.refl (fun _ => False) w).alloc (.cells #[.int .i64 2, .int .u64 (n : Int), .slice ab b.length cb, .slice al l.length cl] 84 (0, 0))) (fun _ _ h => h.elim)))
  have hxb := heap_alloc_new w (.cells #[.int .i64 2, .int .u64 (n : Int), .slice ab b.length cb, .slice al l.length cl] 84 (0, 0))
  have hB0 : Below w.heap.size w (w.alloc (.cells #[.int .i64 2, .int .u64 (n : Int), .slice ab b.length cb, .slice al l.length cl] 84 (0, 0))) := (Below.refl _ _).alloc (Nat.le_refl _) _
  have hsz0 : (w.alloc (.cells #[.int .i64 2, .int .u64 (n : Int), .slice ab b.length cb, .slice al l.length cl] 84 (0, 0))).heap.size = w.heap.size + 1 := by simp
  have HXB := hid hxb
  have HB0 := hid hB0
  have HSZ0 := hid hsz0
  clear hxb hB0 hsz0
  go_enter Try.func49, Try.ntmps49
  go_upto_region 13 with (at_builtin; refine wpl_append (v := .slice none 0 0) (base := w.heap.size + 1) (S := S) rfl rfl etB rfl (own_empty _ _ _ _ _) rfl hx.out (bcells_one b) (by omega) (by simp) ?_; intro v5 w5 ho5 hf5 hm5; rw [Nat.zero_add, List.nil_append] at ho5; obtain ⟨a5, c5, rfl, _⟩ := ho5.len)
  have hF5 : Fr (fun _ => False) (w.alloc (.cells #[.int .i64 2, .int .u64 (n : Int), .slice ab b.length cb, .slice al l.length cl] 84 (0, 0))) w5 := hf5.mono (fun k _ hs => by
    obtain ⟨off, n', c', hv, hc⟩ := hs
    injection hv with _ _ e3
    exact hc e3.symm)
  have b0 : w5.cell? ⟨w.heap.size, 0, none⟩ = some (.int .i64 2) := cell_of_heap (hF5.heap HXB.out id) 0
  have b1 : w5.cell? ⟨w.heap.size, 1, none⟩ = some (.int .u64 (n : Int)) := cell_of_heap (hF5.heap HXB.out id) 1
  have b3 : w5.cell? ⟨w.heap.size, 3, none⟩ = some (.slice al l.length cl) := cell_of_heap (hF5.heap HXB.out id) 3
  have HB := hid (Below.fr HB0.out hF5 (fun _ _ h => h.elim))
  have hsz5 : w.heap.size < w5.heap.size := by have := hF5.size; have := HSZ0.out; omega
  have HO := hid ho5
  clear ho5 hf5 hm5 hF5
  by_cases hn0 : n = 0
  · subst hn0
    by_cases hll : l = []
    · subst hll
      by_cases h65 : b.length ≤ 65535
      · have HI2 := HI.out
        rw [if_pos ⟨rfl, rfl, h65⟩] at HI2
        go_wp2_with (at_builtin; refine wpl_append (v := .slice (some ⟨w5.heap.size, 0, none⟩) 3 3) (S := fun _ => False) rfl rfl etB rfl (own_at (base := w.heap.size + 1) (heap_alloc_new w5 _) rfl (by omega) (by omega)) rfl ((HO.out.row (S := fun _ => False) (fun _ _ _ h => h)).fr ((Fr.refl (fun _ => False) w5).alloc _) (fun _ _ h => h.elim)) (bcells_one b) (by omega) (by simp; omega) ?_; intro v6 w6 ho6 hf6 hm6; rw [show 3 + b.length = (2 :: UInt8.ofNat (b.length / 256) :: UInt8.ofNat (b.length % 256) :: b).length by simp; omega] at ho6; obtain ⟨a6, c6, rfl, _⟩ := ho6.len)
        go_ret2
        rw [formF_some HI2, enc_bytes]
        refine ⟨Below.fr (HB.out.alloc (by omega) _) hf6 (fun k hk hs => ?_), a6, c6, rfl, ?_⟩
        · obtain ⟨off, n', c', hv, _⟩ := hs
          injection hv with e1 _ _; injection e1 with e1; injection e1 with e1 _ _
          omega
        · unfold OwnB
          rw [bcells_head 2 b h65 2 rfl]; exact ho6.mono (by omega)
      · have HI2 := HI.out
        rw [if_neg (fun hh => h65 hh.2.2)] at HI2
        go_wp2
        go_ret2
        rw [formF_none HI2]
        exact ⟨HB.out, rfl⟩
    · have hl0 : 0 < l.length := List.length_pos_iff.2 hll
      have HI2 := HI.out
      rw [if_neg (fun hh => hll hh.2.1)] at HI2
      go_wp2
      go_ret2
      rw [formF_none HI2]
      exact ⟨HB.out, rfl⟩
  · have HI2 := HI.out
    rw [if_neg (fun hh => hn0 hh.1)] at HI2
    have hn1 : ((n : Int) != 0) = true := by simp only [bne_iff_ne, ne_eq]; omega
    go_wp2
    go_ret2
    rw [formF_none HI2]
    exact ⟨HB.out, rfl⟩
theorem inn_other (d n : Nat) (tag : Int) (b : List UInt8) (l : List TV) (h1 : tag ≠ 1) (h2 : tag ≠ 2) (h3 : tag ≠ 3) : inn d (.mk tag n b l) = none := by
  rw [inn]
  simp [onlyB, h1, h2, h3]
set_option maxRecDepth 100000 in
set_option maxHeartbeats 2000000 in
theorem form_other {S : Nat → Prop} (d n : Nat) (tag : Int) (b : List UInt8) (l : List TV) (h1 : tag ≠ 1) (h2 : tag ≠ 2) (h3 : tag ≠ 3) (x : Value) (w : World) (hv : TVv S w (.mk tag n b l) x) : Calls Try.prog 49 #[x, .int .i64 (d : Int)] w (RetE w (formF d (.mk tag n b l))) := by
  obtain ⟨c0, c1, c2, c3, rfl, h⟩ := hv
  obtain ⟨hn, vb, vl, ks, hc, hb, hrow, hch⟩ := h.cells
  simp only [List.cons.injEq, and_true] at hc
  obtain ⟨rfl, rfl, rfl, rfl⟩ := hc
  obtain ⟨ab, cb, rfl, _⟩ := hb
  obtain ⟨_, al, cl, rfl, _⟩ := hrow
  simp only [TV.tag, TV.num, TV.byt, TV.lst] at *
  rw [formF_none (inn_other d n tag b l h1 h2 h3)]
  clear h hch
  have e1 : (tag == 1) = false := by simpa using h1
  have e2 : (tag == 2) = false := by simpa using h2
  have e3 : (tag == 3) = false := by simpa using h3
  go_enter Try.func49, Try.ntmps49
  go_wp2
  go_ret2
  exact ⟨(Below.refl _ _).alloc (Nat.le_refl _) _, rfl⟩
end Go.Proofs.Ytpomfegcifpfkaa
/- ref01's form: a list. -/
namespace Go.Proofs.Ytpomfegcifpfkaa
open Go Go.RowKit
theorem inn_list_no (d n : Nat) (b : List UInt8) (l : List TV) (h : ¬ (n = 0 ∧ b = [] ∧ d ≠ 0)) : inn d (.mk 3 n b l) = none := by
  rw [inn]
  simp only [ite_eq_right_iff]
  intro hh
  have h1 := hh.1
  simp [onlyB] at h1
  exact absurd ⟨h1.1, h1.2, (by have := hh.2; simpa using this)⟩ h
theorem inn_list (d : Nat) (l : List TV) (hd : d ≠ 0) : inn d (.mk 3 0 [] l) = (inns (d - 1) l).bind fun s => if s ≤ 65535 then some s else none := by
  rw [inn, if_pos ⟨by simp [onlyB], fun _ => hd⟩]
  simp [numBytes_zero]
theorem enc_list (l : List TV) : enc (.mk 3 0 [] l) = 3 :: UInt8.ofNat ((encs l).length / 256) :: UInt8.ofNat ((encs l).length % 256) :: encs l := by
  rw [enc, numBytes_zero, List.nil_append, List.nil_append]; rfl
set_option maxRecDepth 100000 in
set_option maxHeartbeats 2000000 in
theorem form_list0 {S : Nat → Prop} (d n : Nat) (b : List UInt8) (l : List TV) (h0 : ¬ (n = 0 ∧ b = [] ∧ d ≠ 0)) (x : Value) (w : World) (hv : TVv S w (.mk 3 n b l) x) : Calls Try.prog 49 #[x, .int .i64 (d : Int)] w (RetE w (formF d (.mk 3 n b l))) := by
  obtain ⟨c0, c1, c2, c3, rfl, h⟩ := hv
  obtain ⟨hn, vb, vl, ks, hc, hb, hrow, hch⟩ := h.cells
  simp only [List.cons.injEq, and_true] at hc
  obtain ⟨rfl, rfl, rfl, rfl⟩ := hc
  obtain ⟨ab, cb, rfl, _⟩ := hb
  obtain ⟨_, al, cl, rfl, _⟩ := hrow
  simp only [TV.tag, TV.num, TV.byt, TV.lst] at *
  rw [formF_none (inn_list_no d n b l h0)]
  clear h hch
  by_cases hn0 : n = 0
  · subst hn0
    by_cases hb0 : b = []
    · subst hb0
      obtain rfl : d = 0 := Nat.eq_zero_of_not_pos (fun hp => h0 ⟨rfl, rfl, by omega⟩)
      go_enter Try.func49, Try.ntmps49
      go_wp2
      go_ret2
      exact ⟨(Below.refl _ _).alloc (Nat.le_refl _) _, rfl⟩
    · have hb1 : 0 < b.length := List.length_pos_iff.2 hb0
      go_enter Try.func49, Try.ntmps49
      go_wp2
      go_ret2
      exact ⟨(Below.refl _ _).alloc (Nat.le_refl _) _, rfl⟩
  · have hn1 : ((n : Int) != 0) = true := by simp only [bne_iff_ne, ne_eq]; omega
    go_enter Try.func49, Try.ntmps49
    go_wp2
    go_ret2
    exact ⟨(Below.refl _ _).alloc (Nat.le_refl _) _, rfl⟩
set_option maxRecDepth 100000 in
set_option maxHeartbeats 4000000 in
theorem form_list {S : Nat → Prop} (d : Nat) (hd : d < 100) (hd0 : d ≠ 0) (l : List TV) (x : Value) (w : World) (hv : TVv S w (.mk 3 0 [] l) x)
    (ih : ∀ (v : TV) (x : Value) (w : World), TVv S w v x → Calls Try.prog 49 #[x, .int .i64 ((d : Int) - 1)] w (RetE w (formF (d - 1) v))) :
    Calls Try.prog 49 #[x, .int .i64 (d : Int)] w (RetE w (formF d (.mk 3 0 [] l))) := by
  obtain ⟨c0, c1, c2, c3, rfl, h⟩ := hv
  obtain ⟨hn, vb, vl, ks, hc, hb, hrow, hch⟩ := h.cells
  simp only [List.cons.injEq, and_true] at hc
  obtain ⟨rfl, rfl, rfl, rfl⟩ := hc
  obtain ⟨ab, cb, rfl, _⟩ := hb
  have HC := hid hch
  obtain ⟨_, al, cl, rfl, ⟨hll, hlim, hcm'⟩, _, h4⟩ := hrow
  have H4 := hid h4
  unfold maxLen at hcm'
  simp only [TV.tag, TV.num, TV.byt, TV.lst] at *
  clear h hch h4
  have IH := hid ih
  clear ih
  have hz : (((d : Nat) : Int) == 0) = false := by simp only [beq_eq_false_iff_ne, ne_eq]; omega
  have hd1 : (1 : Int) ≤ (d : Int) := by omega
  have HX := hid (heap_alloc_new w (.cells #[.int .i64 3, .int .u64 0, .slice ab 0 cb, .slice al l.length cl] 84 (0, 0)))
  have HI := hid (inn_list d l hd0)
  go_enter Try.func49, Try.ntmps49
  go_wp2
  go_loopw [6, 8] (fun s6 s8 wr => ∃ (k s : Nat) (a : Option Addr) (c : Nat), k ≤ l.length ∧ s8 = .int .i64 (k : Int) ∧ s6 = .slice a (encs (l.take k)).length c ∧ inns (d - 1) (l.take k) = some s ∧ s ≤ 200000 ∧ OwnB wr (w.heap.size + 1) (.slice a (encs (l.take k)).length c) (encs (l.take k)) ∧
    Fr (fun _ => False) (w.alloc (.cells #[.int .i64 3, .int .u64 0, .slice ab 0 cb, .slice al l.length cl] 84 (0, 0))) wr) (fun _ s _ => l.length - (intOf s).toNat)
  case atStart => exact ⟨0, 0, none, 0, by omega, rfl, by rw [List.take_zero, encs]; rfl, by rw [List.take_zero, inns], by omega, by rw [List.take_zero, encs]; exact Own.nil _ _ _ _, Fr.refl _ _⟩
  case round =>
    obtain ⟨k, s, a, c, hkl, rfl, rfl, hs, hs2, ho, hF⟩ := hrel
    have HS := hid hs
    have HO := hid ho
    have HF := hid hF
    have hlen : (encs (l.take k)).length = s := inns_length _ _ _ hs
    have hsz : w.heap.size < wr.heap.size := by have := hF.size; simp at this; omega
    have HB := hid (Below.fr ((Below.refl w.heap.size w).alloc (Nat.le_refl _) (.cells #[.int .i64 3, .int .u64 0, .slice ab 0 cb, .slice al l.length cl] 84 (0, 0))) hF (fun _ _ h => h.elim))
    have b0 : wr.cell? ⟨w.heap.size, 0, none⟩ = some (.int .i64 3) := cell_of_heap (hF.heap HX.out id) 0
    have b3 : wr.cell? ⟨w.heap.size, 3, none⟩ = some (.slice al l.length cl) := cell_of_heap (hF.heap HX.out id) 3
    clear hs ho hF
    have HLEN := hid hlen
    rw [hlen]
    by_cases hlt : k < l.length
    · rcases H4.out with h0 | ⟨blk, off, ha, hblk, _, hcells⟩
      · omega
      subst ha
      obtain ⟨ec, hec, hk4⟩ := HC.out.get (i := k) (v := l[k]) (List.getElem?_eq_getElem hlt)
      have HTV := hid (show TVv S wr l[k] (.agg ec.toArray) from by
        obtain ⟨_, vb, vl, ks', rfl, _⟩ := hec.cells
        exact ⟨_, _, _, _, rfl, TVr.fr (Fr.of_below (S := fun _ => False) HB.out) (fun _ _ h => h.elim) _ _ hec⟩)
      have hcw : ∀ j x, ec[j]? = some x → wr.cell? ⟨blk, off + k * 4 + j, none⟩ = some x := fun j x hx => by
        rw [HB.out.cell (p := ⟨blk, off + k * 4 + j, none⟩) hblk, Nat.add_assoc]
        exact hcells _ _ (hk4 j x hx)
      obtain ⟨hen, evb, evl, eks, rfl, heb, her, _⟩ := hec.cells
      obtain ⟨ea, ecap, rfl, _⟩ := heb
      obtain ⟨_, ea', ecap', rfl, _⟩ := her
      have k0 := hcw 0 _ rfl
      have k1 := hcw 1 _ rfl
      have k2 := hcw 2 _ rfl
      have k3 := hcw 3 _ rfl
      rw [Nat.add_zero] at k0
      have HSN := hid (inns_snoc HS.out hlt)
      have hdl : decide ((k : Int) < (l.length : Int)) = true := by simp; omega
      clear hcw hcells hk4 hlen
      cases hin : inn (d - 1) l[k] with
      | none =>
        have IK := hid (IH.out l[k] _ wr HTV.out)
        rw [formF_none hin] at IK
        have HN := hid (show inn d (.mk 3 0 [] l) = none by rw [HI.out, inns_prefix (i := k + 1), HSN.out, hin]; rfl)
        go_wp2_with (go_at_call 49; refine IK.out.mono ?_; rintro e w2 ⟨hb2, rfl⟩; obtain ⟨hc2, hf2⟩ := wold hb2)
        go_ret2
        rw [formF_none HN.out]
        exact ⟨HB.out.trans (hb2.mono (by omega)), rfl⟩
      | some q =>
        have IK := hid (IH.out l[k] _ wr HTV.out)
        rw [formF_some hin] at IK
        have hq := inn_le hin
        have hel : (enc l[k]).length = q + 3 := by rw [enc_length, inn_length _ _ _ hin]
        have HOS := hid (show Own wr (w.heap.size + 1) 5 1 (.slice a s c) s (bcells (encs (l.take k))) by have := HO.out; unfold OwnB at this; rwa [HLEN.out] at this)
        have hL : s + (q + 3) = (encs (l.take (k + 1))).length := by rw [encs_snoc hlt, List.length_append, HLEN.out, hel]
        have HEL := hid hel
        have HL := hid hL
        clear hL hel
        by_cases hbig : 65535 < s
        · have HN := hid (show inn d (.mk 3 0 [] l) = none by
            rw [HI.out, inns_prefix (i := k), HS.out]
            cases inns (d - 1) (l.drop k) with
            | none => rfl
            | some t => simp; omega)
          go_wp2_with (go_at_call 49; refine IK.out.mono ?_; rintro e w2 ⟨hb2, a2, c2, rfl, ho2⟩; unfold OwnB at ho2; rw [HEL.out] at ho2 ⊢; obtain ⟨hc2, hf2⟩ := wold hb2)
          go_ret2
          rw [formF_none HN.out]
          exact ⟨HB.out.trans (hb2.mono (by omega)), rfl⟩
        · go_wp2_with (first | (go_at_call 49; refine IK.out.mono ?_; rintro e w2 ⟨hb2, a2, c2, rfl, ho2⟩; unfold OwnB at ho2; rw [HEL.out] at ho2 ⊢; obtain ⟨hc2, hf2⟩ := wold hb2; have hsz2 : wr.heap.size ≤ w2.heap.size := hb2.size) | (at_builtin; refine wpl_append (v := .slice a s c) (base := w.heap.size + 1) (S := fun _ => False) rfl rfl etB rfl (Own.fr HOS.out (Fr.of_below (S := fun _ => False) hb2) (fun _ _ h => h)) rfl (ho2.row (S := fun _ => False) (fun _ _ _ h => h)) (bcells_one (enc l[k])) (by omega) (by omega) ?_; intro v5 w5 ho5 hf5 hm5; rw [HL.out] at ho5; obtain ⟨a5, c5, rfl, _⟩ := ho5.len))
          go_roundw
          case rel =>
            have hbc : bcells (encs (l.take (k + 1))) = bcells (encs (l.take k)) ++ bcells (enc l[k]) := by rw [encs_snoc hlt, bcells_append]
            have hown : OwnB w5 (w.heap.size + 1) (.slice a5 (encs (l.take (k + 1))).length c5) (encs (l.take (k + 1))) := by
              unfold OwnB
              rw [hbc]; exact ho5
            have hfr := (HF.out.trans (Fr.of_below hb2)).trans' hf5 (fun j hj hm => by
                have := (Own.mine_ge HOS.out hm).1
                simp at hj; omega)
            have hsn := HSN.out
            rw [hin] at hsn
            first
              | exact ⟨k + 1, s + (3 + q), a5, c5, by omega, by go_num, rfl, hsn, by omega, hown, hfr⟩
              | ((repeat apply Exists.intro); refine ⟨?_, rfl⟩; exact ⟨k + 1, s + (3 + q), a5, c5, by omega, by go_num, rfl, hsn, by omega, hown, hfr⟩)
          case measure => simp [intOf]; omega
    · obtain rfl : k = l.length := by omega
      have hs3 := HS.out
      rw [List.take_length] at hs3 hlen
      have HOS := hid (show Own wr (w.heap.size + 1) 5 1 (.slice a s c) s (bcells (encs l)) by have := HO.out; unfold OwnB at this; rwa [HLEN.out, List.take_length] at this)
      have HN := hid (show inn d (.mk 3 0 [] l) = if s ≤ 65535 then some s else none by rw [HI.out, hs3]; rfl)
      by_cases hbig : s ≤ 65535
      · have HN2 := HN.out
        rw [if_pos hbig] at HN2
        have HN3 := hid HN2
        have HLN := hid hlen
        have HLE := hid (show 3 + s = (enc (.mk 3 0 [] l)).length by rw [enc_length]; simp [TV.body, numBytes_zero, hlen]; omega)
        clear HN2 hlen
        go_wp2_with (at_builtin; refine wpl_append (v := .slice (some ⟨wr.heap.size, 0, none⟩) 3 3) (S := fun _ => False) rfl rfl etB rfl (own_at (base := w.heap.size + 1) (heap_alloc_new wr _) rfl (by omega) (by omega)) rfl ((HOS.out.row (S := fun _ => False) (fun _ _ _ h => h)).fr ((Fr.refl (fun _ => False) wr).alloc _) (fun _ _ h => h.elim)) (bcells_one (encs l)) (by omega) (by simp; omega) ?_; intro v5 w5 ho5 hf5 hm5; rw [HLE.out] at ho5; obtain ⟨a5, c5, rfl, _⟩ := ho5.len)
        go_ret2
        rw [formF_some HN3.out]
        refine ⟨Below.fr (HB.out.alloc (by omega) _) hf5 (fun k hk hs => ?_), a5, c5, rfl, ?_⟩
        · obtain ⟨off, n', c', hv, _⟩ := hs
          injection hv with e1 _ _; injection e1 with e1; injection e1 with e1 _ _
          omega
        · have hbc := bcells_head 3 (encs l) (by rw [HLN.out]; exact hbig) 3 rfl
          rw [← enc_list, HLN.out] at hbc
          unfold OwnB
          rw [hbc]; exact ho5.mono (by omega)
      · have HN2 := HN.out
        rw [if_neg hbig] at HN2
        go_wp2
        go_ret2
        rw [formF_none HN2]
        exact ⟨HB.out, rfl⟩
end Go.Proofs.Ytpomfegcifpfkaa
/- ref01's form, whole, and its Put. -/
namespace Go.Proofs.Ytpomfegcifpfkaa
open Go Go.RowKit
theorem form_ok : ∀ (d : Nat), d < 100 → ∀ {S : Nat → Prop} (v : TV) (x : Value) (w : World), TVv S w v x → Calls Try.prog 49 #[x, .int .i64 (d : Int)] w (RetE w (formF d v)) := by
  intro d
  induction d with
  | zero =>
    intro _ S v x w hv
    obtain ⟨tag, n, b, l⟩ := v
    by_cases h1 : tag = 1
    · subst h1; exact form_num 0 n b l x w hv
    · by_cases h2 : tag = 2
      · subst h2; exact form_bytes 0 n b l x w hv
      · by_cases h3 : tag = 3
        · subst h3; exact form_list0 0 n b l (fun h => h.2.2 rfl) x w hv
        · exact form_other 0 n tag b l h1 h2 h3 x w hv
  | succ d ih =>
    intro hd S v x w hv
    obtain ⟨tag, n, b, l⟩ := v
    by_cases h1 : tag = 1
    · subst h1; exact form_num _ n b l x w hv
    · by_cases h2 : tag = 2
      · subst h2; exact form_bytes _ n b l x w hv
      · by_cases h3 : tag = 3
        · subst h3
          by_cases h0 : n = 0 ∧ b = [] ∧ d + 1 ≠ 0
          · obtain ⟨rfl, rfl, h0⟩ := h0
            refine form_list (d + 1) hd h0 l x w hv (fun v x w hv => ?_)
            have := ih (by omega) v x w hv
            rwa [show ((d : Nat) : Int) = ((d + 1 : Nat) : Int) - 1 by omega] at this
          · exact form_list0 _ n b l h0 x w hv
        · exact form_other _ n tag b l h1 h2 h3 x w hv
theorem formF_put (v : TV) : putF v = match formF 8 v with | some bs => (bs, 0) | none => ([], 1) := by
  unfold putF formF
  by_cases h : (inn 8 v).isSome = true
  · rw [if_pos h, if_pos h]
  · rw [if_neg h, if_neg h]
set_option maxRecDepth 100000 in
set_option maxHeartbeats 2000000 in
theorem refPut_ok {S : Nat → Prop} (v : TV) (x : Value) (w : World) (hv : TVv S w v x) : Calls Try.prog 24 #[x] w (RetP w (putF v)) := by
  have HV := hid hv
  obtain ⟨c0, c1, c2, c3, rfl, h⟩ := hv
  obtain ⟨hn, vb, vl, ks, hc, hb, hrow, hch⟩ := h.cells
  simp only [List.cons.injEq, and_true] at hc
  obtain ⟨rfl, rfl, rfl, rfl⟩ := hc
  obtain ⟨ab, cb, rfl, _⟩ := hb
  obtain ⟨_, al, cl, rfl, _⟩ := hrow
  have HK := hid (form_ok 8 (by omega) v _ _ (HV.out.fr ((Fr.refl (fun _ => False) w).alloc (.cells #[.int .i64 v.tag, .int .u64 (v.num : Int), .slice ab v.byt.length cb, .slice al v.lst.length cl] 84 (0, 0))) (fun _ _ h => h.elim)))
  rw [formF_put]
  clear h hch HV
  cases hf : formF 8 v with
  | none =>
    rw [hf] at HK
    go_enter Try.func24, Try.ntmps24
    go_wp2_with (go_at_call 49; refine HK.out.mono ?_; rintro e w2 ⟨hb2, rfl⟩; obtain ⟨hc2, hf2⟩ := wold hb2)
    go_ret2
    exact ⟨_, rfl, Own.nil _ _ _ _, ((Below.refl _ _).alloc (Nat.le_refl _) _).trans (hb2.mono (by simp))⟩
  | some bs =>
    rw [hf] at HK
    go_enter Try.func24, Try.ntmps24
    go_wp2_with (go_at_call 49; refine HK.out.mono ?_; rintro e w2 ⟨hb2, a2, c2, rfl, ho2⟩; obtain ⟨hc2, hf2⟩ := wold hb2)
    go_ret2
    exact ⟨_, rfl, Own.mono ho2 (by simp), ((Below.refl _ _).alloc (Nat.le_refl _) _).trans (hb2.mono (by simp))⟩
end Go.Proofs.Ytpomfegcifpfkaa
/- ref01's read: where there is no form. -/
namespace Go.Proofs.Ytpomfegcifpfkaa
open Go Go.RowKit
/-- What the document's read answers: a value, and how many bytes it took; 0: none. -/
def RetQ (S : Nat → Prop) (w : World) (m : Nat) (r : Option (TV × List UInt8)) (e : Ending) (w' : World) : Prop :=
  Below w.heap.size w w' ∧ match r with
  | none => e = .returned (.tuple #[.agg #[.int .i64 0, .int .u64 0, .slice none 0 0, .slice none 0 0], .int .i64 0])
  | some (v, r) => ∃ x k, e = .returned (.tuple #[x, .int .i64 ((k : Nat) : Int)]) ∧ k + r.length = m ∧ TVv S w' v x
/-- A box of four cells is stored whole. -/
theorem box4 {wa : World} {g t : Nat} {c0 c1 c2 c3 : Value} (a b c d : Value) (hx : wa.heap[g]? = some (.cells #[c0, c1, c2, c3] t (0, 0))) :
    ((((wa.setCell ⟨g, 0, none⟩ a).setCell ⟨g, 1, none⟩ b).setCell ⟨g, 2, none⟩ c).setCell ⟨g, 3, none⟩ d).heap[g]? = some (.cells #[a, b, c, d] t (0, 0)) ∧ Fr (· = g) wa ((((wa.setCell ⟨g, 0, none⟩ a).setCell ⟨g, 1, none⟩ b).setCell ⟨g, 2, none⟩ c).setCell ⟨g, 3, none⟩ d) :=
  ⟨heap_store (heap_store (heap_store (heap_store hx 0 a) 1 b) 2 c) 3 d, ((((Fr.refl (· = g) wa).set1 0 a).set1 1 b).set1 2 c).set1 3 d⟩
theorem splitF_short {xs : List UInt8} (h : xs.length < 3) : splitF xs = none := by
  match xs, h with
  | [], _ => rfl
  | [_], _ => rfl
  | [_, _], _ => rfl
  | _ :: _ :: _ :: _, h => simp at h; omega
theorem readF_none {d : Nat} {xs : List UInt8} (h : splitF xs = none) : readF d xs = none := by
  cases d <;> (rw [readF]; unfold readWith; rw [h]; rfl)
set_option maxRecDepth 100000 in
set_option maxHeartbeats 1000000 in
theorem refRead_short {S : Nat → Prop} (d : Nat) (b : Value) (xs : List UInt8) (w : World) (hb : Bs S w b xs) (hsp : splitF xs = none) :
    Calls Try.prog 61 #[b, .int .i64 (d : Int)] w (RetQ S w xs.length none) := by
  obtain ⟨a, c, rfl, ⟨hlc, hlim, hcm⟩, _, h4⟩ := hb
  unfold maxLen at hcm
  by_cases hl3 : xs.length < 3
  · have hd : decide ((xs.length : Int) < 3) = true := by simp; omega
    clear h4
    go_enter Try.func61, Try.ntmps61
    go_wp2
    exact bodyPost_ret (results_ct rfl _ _ w.heap.size _ _ _ _ rfl (heap_alloc_new w _) Try.underlying84 rfl (by kernel_rfl)) rfl ⟨(Below.refl _ _).alloc (Nat.le_refl _) _, rfl⟩
  · match xs, h4, hsp with
    | [], _, _ => simp at hl3
    | [_], _, _ => simp at hl3
    | [_, _], _, _ => simp at hl3
    | t :: x :: y :: r, h4, hsp =>
      rcases h4 with h | ⟨blk, off, ha, hbl, hS, hcell⟩
      · cases h
      subst ha
      have k0 := hcell 0 t rfl
      have k1 := hcell 1 x rfl
      have k2 := hcell 2 y rfl
      rw [Nat.add_zero] at k0
      have hx := u8_lt x
      have ht := u8_lt t
      have hy := u8_lt y
      have hl : (t :: x :: y :: r).length = r.length + 3 := rfl
      rw [hl] at hlc hlim ⊢
      have hnr : ¬ (x.toNat * 256 + y.toNat ≤ r.length) := fun h => by
        rw [show splitF (t :: x :: y :: r) = if x.toNat * 256 + y.toNat ≤ r.length then some (t, r.take (x.toNat * 256 + y.toNat), r.drop (x.toNat * 256 + y.toNat)) else none from rfl, if_pos h] at hsp
        cases hsp
      clear hcell hl hsp hl3
      have hx0 : (0 : Int) ≤ (x.toNat : Int) := by omega
      have hy0 : (0 : Int) ≤ (y.toNat : Int) := by omega
      generalize x.toNat = xn at *
      generalize y.toNat = yn at *
      have q0 : IntKind.i64.wrap ((xn : Int) * 256) = (xn : Int) * 256 := IntWalk.i64_in _ (by omega)
      have q1 : IntKind.i64.wrap ((xn : Int) * 256 + (yn : Int)) = (xn : Int) * 256 + (yn : Int) := IntWalk.i64_in _ (by omega)
      have q2 : IntKind.i64.wrap (3 + ((xn : Int) * 256 + (yn : Int))) = 3 + ((xn : Int) * 256 + (yn : Int)) := IntWalk.i64_in _ (by omega)
      have hd : decide ((r.length : Int) + 3 < 3 + ((xn : Int) * 256 + (yn : Int))) = true := by simp; omega
      go_enter Try.func61, Try.ntmps61
      go_wp2
      go_quiet (fail)
      go_wp2
      have hbx := box4 (.int .i64 0) (.int .u64 0) (.slice none 0 0) (.slice none 0 0) (show ((w.alloc (.cells #[.int .i64 0, .int .u64 0, .slice none 0 0, .slice none 0 0] 84 (0, 0))).drewN nq).heap[w.heap.size]? = _ from heap_alloc_new w _)
      exact bodyPost_ret (results_ct rfl _ _ w.heap.size _ _ _ _ rfl hbx.1 Try.underlying84 rfl (by kernel_rfl)) rfl ⟨Below.fr (below_dN ((Below.refl _ _).alloc (Nat.le_refl _) _) nq) hbx.2 (fun i hi e => by omega), rfl⟩
end Go.Proofs.Ytpomfegcifpfkaa
/- ref01's read: no value. -/
namespace Go.Proofs.Ytpomfegcifpfkaa
open Go Go.RowKit
theorem splitF_cons {xs : List UInt8} {t : UInt8} {i r : List UInt8} (h : splitF xs = some (t, i, r)) : ∃ x y rr n, xs = t :: x :: y :: rr ∧ x.toNat * 256 + y.toNat = n ∧ n ≤ rr.length ∧ i = rr.take n ∧ r = rr.drop n := by
  match xs, h with
  | [], h => cases h
  | [_], h => cases h
  | [_, _], h => cases h
  | t' :: x :: y :: rr, h =>
    have he : splitF (t' :: x :: y :: rr) = if x.toNat * 256 + y.toNat ≤ rr.length then some (t', rr.take (x.toNat * 256 + y.toNat), rr.drop (x.toNat * 256 + y.toNat)) else none := rfl
    rw [he] at h
    split at h
    · simp only [Option.some.injEq, Prod.mk.injEq] at h
      obtain ⟨rfl, rfl, rfl⟩ := h
      exact ⟨x, y, rr, _, rfl, rfl, ‹_›, rfl, rfl⟩
    · cases h
set_option maxRecDepth 100000 in
set_option maxHeartbeats 2000000 in
theorem refRead_other {S : Nat → Prop} (d : Nat) (b : Value) (xs : List UInt8) (w : World) (hb : Bs S w b xs) (t : UInt8) (i r : List UInt8) (hsp : splitF xs = some (t, i, r))
    (h1 : t.toNat ≠ 1) (h2 : t.toNat ≠ 2) (h3 : t.toNat ≠ 3) :
    Calls Try.prog 61 #[b, .int .i64 (d : Int)] w (RetQ S w xs.length none) := by
  have e1 : ((t.toNat : Int) == 1) = false := by simp only [beq_eq_false_iff_ne, ne_eq]; omega
  have e2 : ((t.toNat : Int) == 2) = false := by simp only [beq_eq_false_iff_ne, ne_eq]; omega
  have e3 : ((t.toNat : Int) == 3) = false := by simp only [beq_eq_false_iff_ne, ne_eq]; omega
  clear h1 h2 h3
  obtain ⟨x, y, rr, n, rfl, hn, hnr, hi, hr⟩ := splitF_cons hsp
  have HB := hid hb
  obtain ⟨a, c, rfl, ⟨hlc, hlim, hcm⟩, _, h4⟩ := hb
  unfold maxLen at hcm
  rcases h4 with h | ⟨blk, off, ha, hbl, hS, hcell⟩
  · cases h
  subst ha
  have k0 := hcell 0 t rfl
  have k1 := hcell 1 x rfl
  have k2 := hcell 2 y rfl
  rw [Nat.add_zero] at k0
  have hx := u8_lt x
  have ht := u8_lt t
  have hy := u8_lt y
  have hl : (t :: x :: y :: rr).length = rr.length + 3 := rfl
  rw [hl] at hlc hlim ⊢
  clear hcell hl hsp
  have hx0 : (0 : Int) ≤ (x.toNat : Int) := by omega
  have hy0 : (0 : Int) ≤ (y.toNat : Int) := by omega
  have ht0 : (0 : Int) ≤ (t.toNat : Int) := by omega
  generalize x.toNat = xn at *
  generalize y.toNat = yn at *
  have q0 : IntKind.i64.wrap ((xn : Int) * 256) = (xn : Int) * 256 := IntWalk.i64_in _ (by omega)
  have q1 : IntKind.i64.wrap ((xn : Int) * 256 + (yn : Int)) = (n : Int) := by rw [show (xn : Int) * 256 + (yn : Int) = (n : Int) by omega]; exact IntWalk.i64_in _ (by omega)
  have q1' : (xn : Int) * 256 + (yn : Int) = (n : Int) := by omega
  have q2 : IntKind.i64.wrap (3 + (n : Int)) = 3 + (n : Int) := IntWalk.i64_in _ (by omega)
  have q3 : (0 : Int) ≤ 3 + (n : Int) := by omega
  have q4 : (3 + (n : Int)).toNat = 3 + n := by omega
  have q5 : 3 + n ≤ c := by omega
  have q6 : 3 + n ≤ rr.length + 3 := by omega
  have q7 : (3 : Int) ≤ 3 + (n : Int) := by omega
  have q8 : 3 + (n : Int) ≤ (c : Int) := by omega
  have q9 : decide ((rr.length : Int) + 3 < 3 + (n : Int)) = false := by simp; omega
  have hnl : n ≤ 65535 := by omega
  clear hx hy
  have hil : i.length = n := by rw [hi, List.length_take]; omega
  have HSUB := hid (show ∀ wc, Fr (fun _ => False) w wc → Bs S wc (.slice (if c = 3 then some ⟨blk, off, none⟩ else some ⟨blk, off + 3, none⟩) n (c - 3)) i from fun wc hF => by
    split
    · have : i = [] := List.eq_nil_of_length_eq_zero (by omega)
      rw [this, show n = 0 by omega]; exact Bs.empty _ _ _ _ (by unfold maxLen; omega)
    · exact Bs.sub (HB.out.fr hF (fun _ _ h => h.elim)) 3 hil (by omega) (by omega) (fun j z hz => by
        have hj : j < n := by have := (List.getElem?_eq_some_iff.1 hz).1; omega
        rw [hi, List.getElem?_take_of_lt hj] at hz
        rw [Nat.add_comm]; exact hz) (by simp only [List.length_cons]; omega))
  go_enter Try.func61, Try.ntmps61
  go_wp2
  go_quiet (fail)
  try simp only [q1']
  go_upto_region 8 with (fail)
  have HF0 := hid ((((Fr.refl (fun _ => False) w).alloc (.cells #[.int .i64 0, .int .u64 0, .slice none 0 0, .slice none 0 0] 84 (0, 0))).drewN nq).alloc (.cells #[.int .i64 (t.toNat : Int), .int .u64 0, .slice none 0 0, .slice none 0 0] 84 (0, 0)))
  have hXR : ((((w.alloc (.cells #[.int .i64 0, .int .u64 0, .slice none 0 0, .slice none 0 0] 84 (0, 0))).drewN nq).alloc (.cells #[.int .i64 (t.toNat : Int), .int .u64 0, .slice none 0 0, .slice none 0 0] 84 (0, 0)))).heap[w.heap.size]? = some (.cells #[.int .i64 0, .int .u64 0, .slice none 0 0, .slice none 0 0] 84 (0, 0)) := heap_alloc2_old w _ _
  have hXV : ((((w.alloc (.cells #[.int .i64 0, .int .u64 0, .slice none 0 0, .slice none 0 0] 84 (0, 0))).drewN nq).alloc (.cells #[.int .i64 (t.toNat : Int), .int .u64 0, .slice none 0 0, .slice none 0 0] 84 (0, 0)))).heap[w.heap.size + 1]? = some (.cells #[.int .i64 (t.toNat : Int), .int .u64 0, .slice none 0 0, .slice none 0 0] 84 (0, 0)) := heap_alloc2_new w _ _
  have hszv : ((((w.alloc (.cells #[.int .i64 0, .int .u64 0, .slice none 0 0, .slice none 0 0] 84 (0, 0))).drewN nq).alloc (.cells #[.int .i64 (t.toNat : Int), .int .u64 0, .slice none 0 0, .slice none 0 0] 84 (0, 0)))).heap.size = w.heap.size + 2 := by show ((w.alloc _).alloc _).heap.size = _; simp
  have HBI := hid (HSUB.out _ HF0.out)
  have HAI := hid (show ∀ b o, (if c = 3 then (some ⟨blk, off, none⟩ : Option Addr) else some ⟨blk, off + 3, none⟩) = some ⟨b, o, none⟩ → b < w.heap.size from fun b o h => by
    split at h <;> (injection h with h; injection h with h1 _ _; omega))
  generalize ((w.alloc (.cells #[.int .i64 0, .int .u64 0, .slice none 0 0, .slice none 0 0] 84 (0, 0))).drewN nq).alloc (.cells #[.int .i64 (t.toNat : Int), .int .u64 0, .slice none 0 0, .slice none 0 0] 84 (0, 0)) = wv at *
  generalize (if c = 3 then (some ⟨blk, off, none⟩ : Option Addr) else some ⟨blk, off + 3, none⟩) = ai at *
  generalize c - 3 = ci at *
  have b0 : wv.cell? ⟨w.heap.size + 1, 0, none⟩ = some (.int .i64 (t.toNat : Int)) := cell_of_heap hXV 0
  have b1 : wv.cell? ⟨w.heap.size + 1, 1, none⟩ = some (.int .u64 0) := cell_of_heap hXV 1
  have b2 : wv.cell? ⟨w.heap.size + 1, 2, none⟩ = some (.slice none 0 0) := cell_of_heap hXV 2
  have b3 : wv.cell? ⟨w.heap.size + 1, 3, none⟩ = some (.slice none 0 0) := cell_of_heap hXV 3
  have z0 : wv.frozen? ⟨w.heap.size + 1, 0, none⟩ = false := frozen_of_row wv _ 0 _ _ hXV
  have z1 : wv.frozen? ⟨w.heap.size + 1, 1, none⟩ = false := frozen_of_row wv _ 1 _ _ hXV
  have z2 : wv.frozen? ⟨w.heap.size + 1, 2, none⟩ = false := frozen_of_row wv _ 2 _ _ hXV
  have z3 : wv.frozen? ⟨w.heap.size + 1, 3, none⟩ = false := frozen_of_row wv _ 3 _ _ hXV
  have r0 : wv.cell? ⟨w.heap.size, 0, none⟩ = some (.int .i64 0) := cell_of_heap hXR 0
  have r1 : wv.cell? ⟨w.heap.size, 1, none⟩ = some (.int .u64 0) := cell_of_heap hXR 1
  have r2 : wv.cell? ⟨w.heap.size, 2, none⟩ = some (.slice none 0 0) := cell_of_heap hXR 2
  have r3 : wv.cell? ⟨w.heap.size, 3, none⟩ = some (.slice none 0 0) := cell_of_heap hXR 3
  have y0 : wv.frozen? ⟨w.heap.size, 0, none⟩ = false := frozen_of_row wv _ 0 _ _ hXR
  have y1 : wv.frozen? ⟨w.heap.size, 1, none⟩ = false := frozen_of_row wv _ 1 _ _ hXR
  have y2 : wv.frozen? ⟨w.heap.size, 2, none⟩ = false := frozen_of_row wv _ 2 _ _ hXR
  have y3 : wv.frozen? ⟨w.heap.size, 3, none⟩ = false := frozen_of_row wv _ 3 _ _ hXR
  have HXR := hid hXR
  have HXV := hid hXV
  clear hXR hXV
  go_wp2
  all_goals
    have hbx := box4 (.int .i64 0) (.int .u64 0) (.slice none 0 0) (.slice none 0 0) HXR.out
    exact bodyPost_ret (results_ct rfl _ _ w.heap.size _ _ _ _ rfl hbx.1 Try.underlying84 rfl (by kernel_rfl)) rfl ⟨Below.fr (Below.fr (Below.refl w.heap.size w) HF0.out (fun _ _ h => h.elim)) hbx.2 (fun i hi e => by omega), rfl⟩
end Go.Proofs.Ytpomfegcifpfkaa
/- ref01's read: bytes. -/
namespace Go.Proofs.Ytpomfegcifpfkaa
open Go Go.RowKit
theorem wold' {W w1 : World} (hb : Fr (fun _ => False) W w1) : (∀ b o, b < W.heap.size → w1.cell? ⟨b, o, none⟩ = W.cell? ⟨b, o, none⟩) ∧ (∀ b o, b < W.heap.size → w1.frozen? ⟨b, o, none⟩ = W.frozen? ⟨b, o, none⟩) :=
  ⟨fun b o h => hb.cell (p := ⟨b, o, none⟩) h id, fun b o h => hb.frozen (p := ⟨b, o, none⟩) h id⟩
set_option maxRecDepth 100000 in
set_option maxHeartbeats 2000000 in
theorem refRead_bytes {S : Nat → Prop} (d : Nat) (b : Value) (xs : List UInt8) (w : World) (hSB : SB S w) (hb : Bs S w b xs) (t : UInt8) (i r : List UInt8) (hsp : splitF xs = some (t, i, r)) (h2 : t.toNat = 2) :
    Calls Try.prog 61 #[b, .int .i64 (d : Int)] w (RetQ S w xs.length (some (.mk 2 0 i [], r))) := by
  have HSB := hid hSB
  have H2 := hid h2
  clear hSB h2
  obtain ⟨x, y, rr, n, rfl, hn, hnr, hi, hr⟩ := splitF_cons hsp
  have HB := hid hb
  obtain ⟨a, c, rfl, ⟨hlc, hlim, hcm⟩, _, h4⟩ := hb
  unfold maxLen at hcm
  rcases h4 with h | ⟨blk, off, ha, hbl, hS, hcell⟩
  · cases h
  subst ha
  have k0 := hcell 0 t rfl
  have k1 := hcell 1 x rfl
  have k2 := hcell 2 y rfl
  rw [Nat.add_zero] at k0
  have hx := u8_lt x
  have ht := u8_lt t
  have hy := u8_lt y
  have hl : (t :: x :: y :: rr).length = rr.length + 3 := rfl
  rw [hl] at hlc hlim ⊢
  clear hcell hl hsp
  have hx0 : (0 : Int) ≤ (x.toNat : Int) := by omega
  have hy0 : (0 : Int) ≤ (y.toNat : Int) := by omega
  have ht0 : (0 : Int) ≤ (t.toNat : Int) := by omega
  generalize x.toNat = xn at *
  generalize y.toNat = yn at *
  have q0 : IntKind.i64.wrap ((xn : Int) * 256) = (xn : Int) * 256 := IntWalk.i64_in _ (by omega)
  have q1 : IntKind.i64.wrap ((xn : Int) * 256 + (yn : Int)) = (n : Int) := by rw [show (xn : Int) * 256 + (yn : Int) = (n : Int) by omega]; exact IntWalk.i64_in _ (by omega)
  have q1' : (xn : Int) * 256 + (yn : Int) = (n : Int) := by omega
  have q2 : IntKind.i64.wrap (3 + (n : Int)) = 3 + (n : Int) := IntWalk.i64_in _ (by omega)
  have q3 : (0 : Int) ≤ 3 + (n : Int) := by omega
  have q4 : (3 + (n : Int)).toNat = 3 + n := by omega
  have q5 : 3 + n ≤ c := by omega
  have q6 : 3 + n ≤ rr.length + 3 := by omega
  have q7 : (3 : Int) ≤ 3 + (n : Int) := by omega
  have q8 : 3 + (n : Int) ≤ (c : Int) := by omega
  have q9 : decide ((rr.length : Int) + 3 < 3 + (n : Int)) = false := by simp; omega
  have hnl : n ≤ 65535 := by omega
  clear hx hy
  have hil : i.length = n := by rw [hi, List.length_take]; omega
  have HSUB := hid (show ∀ wc, Fr (fun _ => False) w wc → Bs S wc (.slice (if c = 3 then some ⟨blk, off, none⟩ else some ⟨blk, off + 3, none⟩) n (c - 3)) i from fun wc hF => by
    split
    · have : i = [] := List.eq_nil_of_length_eq_zero (by omega)
      rw [this, show n = 0 by omega]; exact Bs.empty _ _ _ _ (by unfold maxLen; omega)
    · exact Bs.sub (HB.out.fr hF (fun _ _ h => h.elim)) 3 hil (by omega) (by omega) (fun j z hz => by
        have hj : j < n := by have := (List.getElem?_eq_some_iff.1 hz).1; omega
        rw [hi, List.getElem?_take_of_lt hj] at hz
        rw [Nat.add_comm]; exact hz) (by simp only [List.length_cons]; omega))
  go_enter Try.func61, Try.ntmps61
  go_wp2
  go_quiet (fail)
  try simp only [q1']
  go_upto_region 8 with (fail)
  have HF0 := hid ((((Fr.refl (fun _ => False) w).alloc (.cells #[.int .i64 0, .int .u64 0, .slice none 0 0, .slice none 0 0] 84 (0, 0))).drewN nq).alloc (.cells #[.int .i64 (t.toNat : Int), .int .u64 0, .slice none 0 0, .slice none 0 0] 84 (0, 0)))
  have hXR : ((((w.alloc (.cells #[.int .i64 0, .int .u64 0, .slice none 0 0, .slice none 0 0] 84 (0, 0))).drewN nq).alloc (.cells #[.int .i64 (t.toNat : Int), .int .u64 0, .slice none 0 0, .slice none 0 0] 84 (0, 0)))).heap[w.heap.size]? = some (.cells #[.int .i64 0, .int .u64 0, .slice none 0 0, .slice none 0 0] 84 (0, 0)) := heap_alloc2_old w _ _
  have hXV : ((((w.alloc (.cells #[.int .i64 0, .int .u64 0, .slice none 0 0, .slice none 0 0] 84 (0, 0))).drewN nq).alloc (.cells #[.int .i64 (t.toNat : Int), .int .u64 0, .slice none 0 0, .slice none 0 0] 84 (0, 0)))).heap[w.heap.size + 1]? = some (.cells #[.int .i64 (t.toNat : Int), .int .u64 0, .slice none 0 0, .slice none 0 0] 84 (0, 0)) := heap_alloc2_new w _ _
  have hszv : ((((w.alloc (.cells #[.int .i64 0, .int .u64 0, .slice none 0 0, .slice none 0 0] 84 (0, 0))).drewN nq).alloc (.cells #[.int .i64 (t.toNat : Int), .int .u64 0, .slice none 0 0, .slice none 0 0] 84 (0, 0)))).heap.size = w.heap.size + 2 := by show ((w.alloc _).alloc _).heap.size = _; simp
  have HBI := hid (HSUB.out _ HF0.out)
  have HAI := hid (show ∀ b o, (if c = 3 then (some ⟨blk, off, none⟩ : Option Addr) else some ⟨blk, off + 3, none⟩) = some ⟨b, o, none⟩ → b < w.heap.size from fun b o h => by
    split at h <;> (injection h with h; injection h with h1 _ _; omega))
  generalize ((w.alloc (.cells #[.int .i64 0, .int .u64 0, .slice none 0 0, .slice none 0 0] 84 (0, 0))).drewN nq).alloc (.cells #[.int .i64 (t.toNat : Int), .int .u64 0, .slice none 0 0, .slice none 0 0] 84 (0, 0)) = wv at *
  generalize (if c = 3 then (some ⟨blk, off, none⟩ : Option Addr) else some ⟨blk, off + 3, none⟩) = ai at *
  generalize c - 3 = ci at *
  have b0 : wv.cell? ⟨w.heap.size + 1, 0, none⟩ = some (.int .i64 (t.toNat : Int)) := cell_of_heap hXV 0
  have b1 : wv.cell? ⟨w.heap.size + 1, 1, none⟩ = some (.int .u64 0) := cell_of_heap hXV 1
  have b2 : wv.cell? ⟨w.heap.size + 1, 2, none⟩ = some (.slice none 0 0) := cell_of_heap hXV 2
  have b3 : wv.cell? ⟨w.heap.size + 1, 3, none⟩ = some (.slice none 0 0) := cell_of_heap hXV 3
  have z0 : wv.frozen? ⟨w.heap.size + 1, 0, none⟩ = false := frozen_of_row wv _ 0 _ _ hXV
  have z1 : wv.frozen? ⟨w.heap.size + 1, 1, none⟩ = false := frozen_of_row wv _ 1 _ _ hXV
  have z2 : wv.frozen? ⟨w.heap.size + 1, 2, none⟩ = false := frozen_of_row wv _ 2 _ _ hXV
  have z3 : wv.frozen? ⟨w.heap.size + 1, 3, none⟩ = false := frozen_of_row wv _ 3 _ _ hXV
  have r0 : wv.cell? ⟨w.heap.size, 0, none⟩ = some (.int .i64 0) := cell_of_heap hXR 0
  have r1 : wv.cell? ⟨w.heap.size, 1, none⟩ = some (.int .u64 0) := cell_of_heap hXR 1
  have r2 : wv.cell? ⟨w.heap.size, 2, none⟩ = some (.slice none 0 0) := cell_of_heap hXR 2
  have r3 : wv.cell? ⟨w.heap.size, 3, none⟩ = some (.slice none 0 0) := cell_of_heap hXR 3
  have y0 : wv.frozen? ⟨w.heap.size, 0, none⟩ = false := frozen_of_row wv _ 0 _ _ hXR
  have y1 : wv.frozen? ⟨w.heap.size, 1, none⟩ = false := frozen_of_row wv _ 1 _ _ hXR
  have y2 : wv.frozen? ⟨w.heap.size, 2, none⟩ = false := frozen_of_row wv _ 2 _ _ hXR
  have y3 : wv.frozen? ⟨w.heap.size, 3, none⟩ = false := frozen_of_row wv _ 3 _ _ hXR
  have HXR := hid hXR
  have HXV := hid hXV
  clear hXR hXV
  have e2 : (t.toNat : Int) = 2 := by have := H2.out; omega
  have hrow : Row S wv (.slice ai n ci) n 1 (bcells i) := by have := HBI.out.row; rwa [hil] at this
  have HROW := hid hrow
  clear hrow
  go_wp2_with (at_builtin; refine wpl_append (v := .slice none 0 0) (base := w.heap.size + 2) (S := S) rfl rfl etB rfl (own_empty _ _ _ _ _) rfl HROW.out (bcells_one i) (by omega) (by omega) ?_; intro v5 w5 ho5 hf5 hm5; rw [Nat.zero_add, List.nil_append] at ho5; obtain ⟨a5, c5, rfl, _⟩ := ho5.len; have hF5 : Fr (fun _ => False) wv w5 := hf5.mono (fun k _ hs => (by obtain ⟨off, n', c', hv, hc⟩ := hs; injection hv with _ _ e3; exact hc e3.symm)); obtain ⟨hc5, hz5⟩ := wold' hF5; have hsz5 : w.heap.size + 2 ≤ w5.heap.size := (by have := hF5.size; omega))
  have hxr := (heap_setCell_other w5 ⟨w.heap.size + 1, 2, none⟩ w.heap.size (.slice a5 n c5) (by show w.heap.size ≠ w.heap.size + 1; omega)).trans (hF5.heap HXR.out id)
  have hbx := box4 (.int .i64 2) (.int .u64 0) (.slice a5 n c5) (.slice none 0 0) hxr
  have hFa : Fr (fun k => k = w.heap.size + 1 ∨ k = w.heap.size) w5 (w5.setCell ⟨w.heap.size + 1, 2, none⟩ (.slice a5 n c5)) := ((Fr.refl (· = w.heap.size + 1) w5).set1 2 (.slice a5 n c5)).mono (fun _ _ h => .inl h)
  have hFb := hFa.trans' hbx.2 (fun k _ h => .inr h)
  have ho6 : OwnB w5 (w.heap.size + 2) (.slice a5 i.length c5) i := by unfold OwnB; rw [hil]; exact ho5
  have ho7 : OwnB _ _ _ _ := Own.fr ho6 hFb (fun k hk hs => by have := (Own.mine_ge ho6 hk).1; omega)
  have hbs := ho7.bs (S := S) (fun k hk _ hs => by have := HSB.out k hs; omega)
  have hB := Below.fr (Below.refl w.heap.size w) ((HF0.out.trans hF5).trans' hFb (S := fun _ => False) (fun k hk hs => by omega)) (fun _ _ h => h.elim)
  have hrl : 3 + n + r.length = rr.length + 3 := by rw [hr, List.length_drop]; omega
  rw [hil] at hbs
  refine bodyPost_ret (results_ct rfl _ _ w.heap.size _ _ _ _ rfl hbx.1 Try.underlying84 rfl (by kernel_rfl)) rfl ⟨hB, _, 3 + n, rfl, hrl, ⟨_, _, _, _, rfl, ?_⟩⟩
  rw [TVr]
  exact ⟨by omega, _, _, [], rfl, hbs, ⟨rfl, none, 0, rfl, ⟨Nat.le_refl _, Nat.zero_le _, Nat.zero_le _⟩, fun _ => rfl, .inl rfl⟩, by rw [TVch]⟩
end Go.Proofs.Ytpomfegcifpfkaa
/- ref01's read: a number. -/
namespace Go.Proofs.Ytpomfegcifpfkaa
open Go Go.RowKit
set_option maxRecDepth 100000 in
set_option maxHeartbeats 2000000 in
theorem refRead_bad {S : Nat → Prop} (d : Nat) (b : Value) (xs : List UInt8) (w : World) (hb : Bs S w b xs) (t : UInt8) (i r : List UInt8) (hsp : splitF xs = some (t, i, r)) (h1 : t.toNat = 1) (hbad : ¬ (i.length ≤ 8 ∧ i.head? ≠ some 0)) :
    Calls Try.prog 61 #[b, .int .i64 (d : Int)] w (RetQ S w xs.length none) := by
  have H1 := hid h1
  have HBAD := hid hbad
  clear h1 hbad
  obtain ⟨x, y, rr, n, rfl, hn, hnr, hi, hr⟩ := splitF_cons hsp
  have HB := hid hb
  obtain ⟨a, c, rfl, ⟨hlc, hlim, hcm⟩, _, h4⟩ := hb
  unfold maxLen at hcm
  rcases h4 with h | ⟨blk, off, ha, hbl, hS, hcell⟩
  · cases h
  subst ha
  have k0 := hcell 0 t rfl
  have k1 := hcell 1 x rfl
  have k2 := hcell 2 y rfl
  rw [Nat.add_zero] at k0
  have hx := u8_lt x
  have ht := u8_lt t
  have hy := u8_lt y
  have hl : (t :: x :: y :: rr).length = rr.length + 3 := rfl
  rw [hl] at hlc hlim ⊢
  clear hcell hl hsp
  have hx0 : (0 : Int) ≤ (x.toNat : Int) := by omega
  have hy0 : (0 : Int) ≤ (y.toNat : Int) := by omega
  have ht0 : (0 : Int) ≤ (t.toNat : Int) := by omega
  generalize x.toNat = xn at *
  generalize y.toNat = yn at *
  have q0 : IntKind.i64.wrap ((xn : Int) * 256) = (xn : Int) * 256 := IntWalk.i64_in _ (by omega)
  have q1 : IntKind.i64.wrap ((xn : Int) * 256 + (yn : Int)) = (n : Int) := by rw [show (xn : Int) * 256 + (yn : Int) = (n : Int) by omega]; exact IntWalk.i64_in _ (by omega)
  have q1' : (xn : Int) * 256 + (yn : Int) = (n : Int) := by omega
  have q2 : IntKind.i64.wrap (3 + (n : Int)) = 3 + (n : Int) := IntWalk.i64_in _ (by omega)
  have q3 : (0 : Int) ≤ 3 + (n : Int) := by omega
  have q4 : (3 + (n : Int)).toNat = 3 + n := by omega
  have q5 : 3 + n ≤ c := by omega
  have q6 : 3 + n ≤ rr.length + 3 := by omega
  have q7 : (3 : Int) ≤ 3 + (n : Int) := by omega
  have q8 : 3 + (n : Int) ≤ (c : Int) := by omega
  have q9 : decide ((rr.length : Int) + 3 < 3 + (n : Int)) = false := by simp; omega
  have hnl : n ≤ 65535 := by omega
  clear hx hy
  have hil : i.length = n := by rw [hi, List.length_take]; omega
  have HSUB := hid (show ∀ wc, Fr (fun _ => False) w wc → Bs S wc (.slice (if c = 3 then some ⟨blk, off, none⟩ else some ⟨blk, off + 3, none⟩) n (c - 3)) i from fun wc hF => by
    split
    · have : i = [] := List.eq_nil_of_length_eq_zero (by omega)
      rw [this, show n = 0 by omega]; exact Bs.empty _ _ _ _ (by unfold maxLen; omega)
    · exact Bs.sub (HB.out.fr hF (fun _ _ h => h.elim)) 3 hil (by omega) (by omega) (fun j z hz => by
        have hj : j < n := by have := (List.getElem?_eq_some_iff.1 hz).1; omega
        rw [hi, List.getElem?_take_of_lt hj] at hz
        rw [Nat.add_comm]; exact hz) (by simp only [List.length_cons]; omega))
  go_enter Try.func61, Try.ntmps61
  go_wp2
  go_quiet (fail)
  try simp only [q1']
  go_upto_region 8 with (fail)
  have HF0 := hid ((((Fr.refl (fun _ => False) w).alloc (.cells #[.int .i64 0, .int .u64 0, .slice none 0 0, .slice none 0 0] 84 (0, 0))).drewN nq).alloc (.cells #[.int .i64 (t.toNat : Int), .int .u64 0, .slice none 0 0, .slice none 0 0] 84 (0, 0)))
  have hXR : ((((w.alloc (.cells #[.int .i64 0, .int .u64 0, .slice none 0 0, .slice none 0 0] 84 (0, 0))).drewN nq).alloc (.cells #[.int .i64 (t.toNat : Int), .int .u64 0, .slice none 0 0, .slice none 0 0] 84 (0, 0)))).heap[w.heap.size]? = some (.cells #[.int .i64 0, .int .u64 0, .slice none 0 0, .slice none 0 0] 84 (0, 0)) := heap_alloc2_old w _ _
  have hXV : ((((w.alloc (.cells #[.int .i64 0, .int .u64 0, .slice none 0 0, .slice none 0 0] 84 (0, 0))).drewN nq).alloc (.cells #[.int .i64 (t.toNat : Int), .int .u64 0, .slice none 0 0, .slice none 0 0] 84 (0, 0)))).heap[w.heap.size + 1]? = some (.cells #[.int .i64 (t.toNat : Int), .int .u64 0, .slice none 0 0, .slice none 0 0] 84 (0, 0)) := heap_alloc2_new w _ _
  have hszv : ((((w.alloc (.cells #[.int .i64 0, .int .u64 0, .slice none 0 0, .slice none 0 0] 84 (0, 0))).drewN nq).alloc (.cells #[.int .i64 (t.toNat : Int), .int .u64 0, .slice none 0 0, .slice none 0 0] 84 (0, 0)))).heap.size = w.heap.size + 2 := by show ((w.alloc _).alloc _).heap.size = _; simp
  have HBI := hid (HSUB.out _ HF0.out)
  have HAI := hid (show ∀ b o, (if c = 3 then (some ⟨blk, off, none⟩ : Option Addr) else some ⟨blk, off + 3, none⟩) = some ⟨b, o, none⟩ → b < w.heap.size from fun b o h => by
    split at h <;> (injection h with h; injection h with h1 _ _; omega))
  generalize ((w.alloc (.cells #[.int .i64 0, .int .u64 0, .slice none 0 0, .slice none 0 0] 84 (0, 0))).drewN nq).alloc (.cells #[.int .i64 (t.toNat : Int), .int .u64 0, .slice none 0 0, .slice none 0 0] 84 (0, 0)) = wv at *
  generalize (if c = 3 then (some ⟨blk, off, none⟩ : Option Addr) else some ⟨blk, off + 3, none⟩) = ai at *
  generalize c - 3 = ci at *
  have b0 : wv.cell? ⟨w.heap.size + 1, 0, none⟩ = some (.int .i64 (t.toNat : Int)) := cell_of_heap hXV 0
  have b1 : wv.cell? ⟨w.heap.size + 1, 1, none⟩ = some (.int .u64 0) := cell_of_heap hXV 1
  have b2 : wv.cell? ⟨w.heap.size + 1, 2, none⟩ = some (.slice none 0 0) := cell_of_heap hXV 2
  have b3 : wv.cell? ⟨w.heap.size + 1, 3, none⟩ = some (.slice none 0 0) := cell_of_heap hXV 3
  have z0 : wv.frozen? ⟨w.heap.size + 1, 0, none⟩ = false := frozen_of_row wv _ 0 _ _ hXV
  have z1 : wv.frozen? ⟨w.heap.size + 1, 1, none⟩ = false := frozen_of_row wv _ 1 _ _ hXV
  have z2 : wv.frozen? ⟨w.heap.size + 1, 2, none⟩ = false := frozen_of_row wv _ 2 _ _ hXV
  have z3 : wv.frozen? ⟨w.heap.size + 1, 3, none⟩ = false := frozen_of_row wv _ 3 _ _ hXV
  have r0 : wv.cell? ⟨w.heap.size, 0, none⟩ = some (.int .i64 0) := cell_of_heap hXR 0
  have r1 : wv.cell? ⟨w.heap.size, 1, none⟩ = some (.int .u64 0) := cell_of_heap hXR 1
  have r2 : wv.cell? ⟨w.heap.size, 2, none⟩ = some (.slice none 0 0) := cell_of_heap hXR 2
  have r3 : wv.cell? ⟨w.heap.size, 3, none⟩ = some (.slice none 0 0) := cell_of_heap hXR 3
  have y0 : wv.frozen? ⟨w.heap.size, 0, none⟩ = false := frozen_of_row wv _ 0 _ _ hXR
  have y1 : wv.frozen? ⟨w.heap.size, 1, none⟩ = false := frozen_of_row wv _ 1 _ _ hXR
  have y2 : wv.frozen? ⟨w.heap.size, 2, none⟩ = false := frozen_of_row wv _ 2 _ _ hXR
  have y3 : wv.frozen? ⟨w.heap.size, 3, none⟩ = false := frozen_of_row wv _ 3 _ _ hXR
  have HXR := hid hXR
  have HXV := hid hXV
  clear hXR hXV
  have e1 : (t.toNat : Int) = 1 := by have := H1.out; omega
  by_cases h8 : n ≤ 8
  · have hi0 : i[0]? = some 0 := by
      cases i with
      | nil => exact absurd ⟨by simp, by simp⟩ HBAD.out
      | cons q i =>
        by_cases hq : q = 0
        · rw [hq]; rfl
        · exact absurd ⟨by omega, by simpa using hq⟩ HBAD.out
    have hn0 : 0 < n := by have := (List.getElem?_eq_some_iff.1 hi0).1; omega
    obtain ⟨_, _, hsl, ⟨hf1a, hf2a, hf3a⟩, _, h4⟩ := HBI.out
    injection hsl with ea en ec
    subst ea ec
    clear en
    rcases h4 with h | ⟨bk, of, ha, _, _, hc⟩
    · rw [h] at hi0; cases hi0
    subst ha
    have hcell : wv.cell? ⟨bk, of, none⟩ = some (.int .u8 0) := by have := hc 0 0 hi0; rwa [Nat.add_zero] at this
    have d8 : decide ((8 : Int) < (n : Int)) = false := by simp; omega
    have d0 : decide ((0 : Int) < (n : Int)) = true := by simp; omega
    clear hc
    go_wp2
    all_goals
      have hbx := box4 (.int .i64 0) (.int .u64 0) (.slice none 0 0) (.slice none 0 0) HXR.out
      exact bodyPost_ret (results_ct rfl _ _ w.heap.size _ _ _ _ rfl hbx.1 Try.underlying84 rfl (by kernel_rfl)) rfl ⟨Below.fr (Below.fr (Below.refl w.heap.size w) HF0.out (fun _ _ h => h.elim)) hbx.2 (fun i hi e => by omega), rfl⟩
  · have d8 : 8 < n := by omega
    go_wp2
    all_goals
      have hbx := box4 (.int .i64 0) (.int .u64 0) (.slice none 0 0) (.slice none 0 0) HXR.out
      exact bodyPost_ret (results_ct rfl _ _ w.heap.size _ _ _ _ rfl hbx.1 Try.underlying84 rfl (by kernel_rfl)) rfl ⟨Below.fr (Below.fr (Below.refl w.heap.size w) HF0.out (fun _ _ h => h.elim)) hbx.2 (fun i hi e => by omega), rfl⟩
end Go.Proofs.Ytpomfegcifpfkaa
/- ref01's read: a number that is right. -/
namespace Go.Proofs.Ytpomfegcifpfkaa
open Go Go.RowKit
theorem Bs.nil0' (S : Nat → Prop) (w : World) : Bs S w (.slice none 0 0) [] := ⟨none, 0, rfl, ⟨Nat.le_refl _, Nat.zero_le _, Nat.zero_le _⟩, fun _ => rfl, .inl rfl⟩
set_option maxRecDepth 100000 in
set_option maxHeartbeats 2000000 in
theorem refRead_num {S : Nat → Prop} (d : Nat) (b : Value) (xs : List UInt8) (w : World) (hb : Bs S w b xs) (t : UInt8) (i r : List UInt8) (hsp : splitF xs = some (t, i, r)) (h1 : t.toNat = 1) (hi8 : i.length ≤ 8) (hh0 : i.head? ≠ some 0) :
    Calls Try.prog 61 #[b, .int .i64 (d : Int)] w (RetQ S w xs.length (some (.mk 1 (bytesNum i) [] [], r))) := by
  have H1 := hid h1
  have HH0 := hid hh0
  have HI8 := hid hi8
  clear h1 hh0 hi8
  obtain ⟨x, y, rr, n, rfl, hn, hnr, hi, hr⟩ := splitF_cons hsp
  have HB := hid hb
  obtain ⟨a, c, rfl, ⟨hlc, hlim, hcm⟩, _, h4⟩ := hb
  unfold maxLen at hcm
  rcases h4 with h | ⟨blk, off, ha, hbl, hS, hcell⟩
  · cases h
  subst ha
  have k0 := hcell 0 t rfl
  have k1 := hcell 1 x rfl
  have k2 := hcell 2 y rfl
  rw [Nat.add_zero] at k0
  have hx := u8_lt x
  have ht := u8_lt t
  have hy := u8_lt y
  have hl : (t :: x :: y :: rr).length = rr.length + 3 := rfl
  rw [hl] at hlc hlim ⊢
  clear hcell hl hsp
  have hx0 : (0 : Int) ≤ (x.toNat : Int) := by omega
  have hy0 : (0 : Int) ≤ (y.toNat : Int) := by omega
  have ht0 : (0 : Int) ≤ (t.toNat : Int) := by omega
  generalize x.toNat = xn at *
  generalize y.toNat = yn at *
  have q0 : IntKind.i64.wrap ((xn : Int) * 256) = (xn : Int) * 256 := IntWalk.i64_in _ (by omega)
  have q1 : IntKind.i64.wrap ((xn : Int) * 256 + (yn : Int)) = (n : Int) := by rw [show (xn : Int) * 256 + (yn : Int) = (n : Int) by omega]; exact IntWalk.i64_in _ (by omega)
  have q1' : (xn : Int) * 256 + (yn : Int) = (n : Int) := by omega
  have q2 : IntKind.i64.wrap (3 + (n : Int)) = 3 + (n : Int) := IntWalk.i64_in _ (by omega)
  have q3 : (0 : Int) ≤ 3 + (n : Int) := by omega
  have q4 : (3 + (n : Int)).toNat = 3 + n := by omega
  have q5 : 3 + n ≤ c := by omega
  have q6 : 3 + n ≤ rr.length + 3 := by omega
  have q7 : (3 : Int) ≤ 3 + (n : Int) := by omega
  have q8 : 3 + (n : Int) ≤ (c : Int) := by omega
  have q9 : decide ((rr.length : Int) + 3 < 3 + (n : Int)) = false := by simp; omega
  have hnl : n ≤ 65535 := by omega
  clear hx hy
  have hil : i.length = n := by rw [hi, List.length_take]; omega
  have HSUB := hid (show ∀ wc, Fr (fun _ => False) w wc → Bs S wc (.slice (if c = 3 then some ⟨blk, off, none⟩ else some ⟨blk, off + 3, none⟩) n (c - 3)) i from fun wc hF => by
    split
    · have : i = [] := List.eq_nil_of_length_eq_zero (by omega)
      rw [this, show n = 0 by omega]; exact Bs.empty _ _ _ _ (by unfold maxLen; omega)
    · exact Bs.sub (HB.out.fr hF (fun _ _ h => h.elim)) 3 hil (by omega) (by omega) (fun j z hz => by
        have hj : j < n := by have := (List.getElem?_eq_some_iff.1 hz).1; omega
        rw [hi, List.getElem?_take_of_lt hj] at hz
        rw [Nat.add_comm]; exact hz) (by simp only [List.length_cons]; omega))
  go_enter Try.func61, Try.ntmps61
  go_wp2
  go_quiet (fail)
  try simp only [q1']
  go_upto_region 8 with (fail)
  have HF0 := hid ((((Fr.refl (fun _ => False) w).alloc (.cells #[.int .i64 0, .int .u64 0, .slice none 0 0, .slice none 0 0] 84 (0, 0))).drewN nq).alloc (.cells #[.int .i64 (t.toNat : Int), .int .u64 0, .slice none 0 0, .slice none 0 0] 84 (0, 0)))
  have hXR : ((((w.alloc (.cells #[.int .i64 0, .int .u64 0, .slice none 0 0, .slice none 0 0] 84 (0, 0))).drewN nq).alloc (.cells #[.int .i64 (t.toNat : Int), .int .u64 0, .slice none 0 0, .slice none 0 0] 84 (0, 0)))).heap[w.heap.size]? = some (.cells #[.int .i64 0, .int .u64 0, .slice none 0 0, .slice none 0 0] 84 (0, 0)) := heap_alloc2_old w _ _
  have hXV : ((((w.alloc (.cells #[.int .i64 0, .int .u64 0, .slice none 0 0, .slice none 0 0] 84 (0, 0))).drewN nq).alloc (.cells #[.int .i64 (t.toNat : Int), .int .u64 0, .slice none 0 0, .slice none 0 0] 84 (0, 0)))).heap[w.heap.size + 1]? = some (.cells #[.int .i64 (t.toNat : Int), .int .u64 0, .slice none 0 0, .slice none 0 0] 84 (0, 0)) := heap_alloc2_new w _ _
  have hszv : ((((w.alloc (.cells #[.int .i64 0, .int .u64 0, .slice none 0 0, .slice none 0 0] 84 (0, 0))).drewN nq).alloc (.cells #[.int .i64 (t.toNat : Int), .int .u64 0, .slice none 0 0, .slice none 0 0] 84 (0, 0)))).heap.size = w.heap.size + 2 := by show ((w.alloc _).alloc _).heap.size = _; simp
  have HBI := hid (HSUB.out _ HF0.out)
  have HAI := hid (show ∀ b o, (if c = 3 then (some ⟨blk, off, none⟩ : Option Addr) else some ⟨blk, off + 3, none⟩) = some ⟨b, o, none⟩ → b < w.heap.size from fun b o h => by
    split at h <;> (injection h with h; injection h with h1 _ _; omega))
  generalize ((w.alloc (.cells #[.int .i64 0, .int .u64 0, .slice none 0 0, .slice none 0 0] 84 (0, 0))).drewN nq).alloc (.cells #[.int .i64 (t.toNat : Int), .int .u64 0, .slice none 0 0, .slice none 0 0] 84 (0, 0)) = wv at *
  generalize (if c = 3 then (some ⟨blk, off, none⟩ : Option Addr) else some ⟨blk, off + 3, none⟩) = ai at *
  generalize c - 3 = ci at *
  have b0 : wv.cell? ⟨w.heap.size + 1, 0, none⟩ = some (.int .i64 (t.toNat : Int)) := cell_of_heap hXV 0
  have b1 : wv.cell? ⟨w.heap.size + 1, 1, none⟩ = some (.int .u64 0) := cell_of_heap hXV 1
  have b2 : wv.cell? ⟨w.heap.size + 1, 2, none⟩ = some (.slice none 0 0) := cell_of_heap hXV 2
  have b3 : wv.cell? ⟨w.heap.size + 1, 3, none⟩ = some (.slice none 0 0) := cell_of_heap hXV 3
  have z0 : wv.frozen? ⟨w.heap.size + 1, 0, none⟩ = false := frozen_of_row wv _ 0 _ _ hXV
  have z1 : wv.frozen? ⟨w.heap.size + 1, 1, none⟩ = false := frozen_of_row wv _ 1 _ _ hXV
  have z2 : wv.frozen? ⟨w.heap.size + 1, 2, none⟩ = false := frozen_of_row wv _ 2 _ _ hXV
  have z3 : wv.frozen? ⟨w.heap.size + 1, 3, none⟩ = false := frozen_of_row wv _ 3 _ _ hXV
  have r0 : wv.cell? ⟨w.heap.size, 0, none⟩ = some (.int .i64 0) := cell_of_heap hXR 0
  have r1 : wv.cell? ⟨w.heap.size, 1, none⟩ = some (.int .u64 0) := cell_of_heap hXR 1
  have r2 : wv.cell? ⟨w.heap.size, 2, none⟩ = some (.slice none 0 0) := cell_of_heap hXR 2
  have r3 : wv.cell? ⟨w.heap.size, 3, none⟩ = some (.slice none 0 0) := cell_of_heap hXR 3
  have y0 : wv.frozen? ⟨w.heap.size, 0, none⟩ = false := frozen_of_row wv _ 0 _ _ hXR
  have y1 : wv.frozen? ⟨w.heap.size, 1, none⟩ = false := frozen_of_row wv _ 1 _ _ hXR
  have y2 : wv.frozen? ⟨w.heap.size, 2, none⟩ = false := frozen_of_row wv _ 2 _ _ hXR
  have y3 : wv.frozen? ⟨w.heap.size, 3, none⟩ = false := frozen_of_row wv _ 3 _ _ hXR
  have HXR := hid hXR
  have HXV := hid hXV
  clear hXR hXV
  have e1 : (t.toNat : Int) = 1 := by have := H1.out; omega
  rw [e1] at HXV
  simp only [e1]
  have hn8 : n ≤ 8 := by have := HI8.out; omega
  have d8 : decide ((8 : Int) < (n : Int)) = false := by simp; omega
  obtain ⟨_, _, hsl, ⟨hf1a, hf2a, hf3a⟩, _, h4⟩ := HBI.out
  injection hsl with ea en ec
  subst ea ec
  clear en
  have H4 := hid h4
  clear h4
  have hcase : ((n : Int) == 0) = true ∧ n = 0 ∨ (0 < n ∧ ∃ c0 : Int, (c0 == 0) = false ∧ ∃ blk off, ai = some ⟨blk, off, none⟩ ∧ wv.cell? ⟨blk, off, none⟩ = some (.int .u8 c0)) := by
    by_cases h0 : n = 0
    · exact .inl ⟨by simp; exact h0, h0⟩
    · refine .inr ⟨by omega, ?_⟩
      cases i with
      | nil => simp at hil; omega
      | cons q i =>
        refine ⟨(q.toNat : Int), ?_, ?_⟩
        · have := HH0.out
          simp only [List.head?_cons, ne_eq, Option.some.injEq] at this
          simp only [beq_eq_false_iff_ne, ne_eq]
          intro hh
          exact this (UInt8.toNat_inj.1 (by simpa using hh))
        · rcases H4.out with h | ⟨blk, off, ha, _, _, hc⟩
          · cases h
          · exact ⟨blk, off, ha, by have := hc 0 q rfl; rwa [Nat.add_zero] at this⟩
  have HIL := hid hil
  have HRR := hid hr
  clear hi hr hil
  rcases hcase with ⟨hz, hz0⟩ | ⟨hpos, c0, hc0, bk, of, rfl, hcell⟩
  · have d0 : decide ((0 : Int) < (n : Int)) = false := by simp; omega
    go_wp2
    go_loopw [9] (fun j wr => ∃ k : Nat, k ≤ n ∧ j = .int .i64 ((k : Nat) : Int) ∧ wr.heap[w.heap.size + 1]? = some (.cells #[.int .i64 1, .int .u64 ((bytesNum (i.take k) : Nat) : Int), .slice none 0 0, .slice none 0 0] 84 (0, 0)) ∧ Fr (· = w.heap.size + 1) wv wr) (fun j _ => n - (intOf j).toNat)
    case atStart => exact ⟨0, by omega, rfl, by rw [List.take_zero]; exact HXV.out, Fr.refl _ _⟩
    case round =>
      obtain ⟨k, hk, rfl, hx, hF⟩ := hrel
      have c0' : wr.cell? ⟨w.heap.size + 1, 0, none⟩ = some (.int .i64 1) := cell_of_heap hx 0
      have c1' : wr.cell? ⟨w.heap.size + 1, 1, none⟩ = some (.int .u64 ((bytesNum (i.take k) : Nat) : Int)) := cell_of_heap hx 1
      have c2' : wr.cell? ⟨w.heap.size + 1, 2, none⟩ = some (.slice none 0 0) := cell_of_heap hx 2
      have c3' : wr.cell? ⟨w.heap.size + 1, 3, none⟩ = some (.slice none 0 0) := cell_of_heap hx 3
      have z1' : wr.frozen? ⟨w.heap.size + 1, 1, none⟩ = false := frozen_of_row wr _ 1 _ _ hx
      have hnl := bytesNum_lt i k
      have HX := hid hx
      have HF := hid hF
      clear hx
      have hnk : k = n := by omega
      subst hnk
      have htk : i.take k = i := List.take_of_length_le (by have := HIL.out; omega)
      rw [htk] at c1' HX
      have hdl : decide ((k : Int) < (k : Int)) = false := by simp
      have HXQ := hid (HF.out.heap HXR.out (by omega))
      have s0' : wr.cell? ⟨w.heap.size, 0, none⟩ = some (.int .i64 0) := cell_of_heap HXQ.out 0
      have s1' : wr.cell? ⟨w.heap.size, 1, none⟩ = some (.int .u64 0) := cell_of_heap HXQ.out 1
      have s2' : wr.cell? ⟨w.heap.size, 2, none⟩ = some (.slice none 0 0) := cell_of_heap HXQ.out 2
      have s3' : wr.cell? ⟨w.heap.size, 3, none⟩ = some (.slice none 0 0) := cell_of_heap HXQ.out 3
      have x0' : wr.frozen? ⟨w.heap.size, 0, none⟩ = false := frozen_of_row wr _ 0 _ _ HXQ.out
      have x1' : wr.frozen? ⟨w.heap.size, 1, none⟩ = false := frozen_of_row wr _ 1 _ _ HXQ.out
      have x2' : wr.frozen? ⟨w.heap.size, 2, none⟩ = false := frozen_of_row wr _ 2 _ _ HXQ.out
      have x3' : wr.frozen? ⟨w.heap.size, 3, none⟩ = false := frozen_of_row wr _ 3 _ _ HXQ.out
      go_wp2
      have hbx := box4 (.int .i64 1) (.int .u64 ((bytesNum i : Nat) : Int)) (.slice none 0 0) (.slice none 0 0) HXQ.out
      have hFb := (HF0.out.trans' HF.out (S := fun _ => False) (S' := (· = w.heap.size + 1)) (fun k hk hs => by omega))
      have hB2 := Below.fr (Below.fr (Below.refl w.heap.size w) hFb (fun _ _ h => h.elim)) hbx.2 (fun i hi e => by omega)
      have hrl : 3 + k + r.length = rr.length + 3 := by have := HRR.out; rw [this, List.length_drop]; omega
      refine bodyPost_ret (results_ct rfl _ _ w.heap.size _ _ _ _ rfl hbx.1 Try.underlying84 rfl (by kernel_rfl)) rfl ⟨hB2, .agg #[.int .i64 1, .int .u64 ((bytesNum i : Nat) : Int), .slice none 0 0, .slice none 0 0], 3 + k, (by first | rfl | ((have hk0 : k = 0 := (by omega)); subst hk0; rfl)), hrl, ⟨_, _, _, _, rfl, ?_⟩⟩
      rw [TVr]
      exact ⟨(by have := bytesNum_lt i k; have h2 : 256 ^ k ≤ 256 ^ 8 := Nat.pow_le_pow_right (by omega) (by omega); rw [htk] at this; have h7 : (256 : Nat) ^ 8 = 18446744073709551616 := rfl; omega), _, _, [], rfl, Bs.nil0' _ _, ⟨rfl, none, 0, rfl, ⟨Nat.le_refl _, Nat.zero_le _, Nat.zero_le _⟩, fun _ => rfl, .inl rfl⟩, by rw [TVch]⟩
  · have d0 : decide ((0 : Int) < (n : Int)) = true := by simp; omega
    go_wp2
    go_loopw [9] (fun j wr => ∃ k : Nat, k ≤ n ∧ j = .int .i64 ((k : Nat) : Int) ∧ wr.heap[w.heap.size + 1]? = some (.cells #[.int .i64 1, .int .u64 ((bytesNum (i.take k) : Nat) : Int), .slice none 0 0, .slice none 0 0] 84 (0, 0)) ∧ Fr (· = w.heap.size + 1) wv wr) (fun j _ => n - (intOf j).toNat)
    case atStart => exact ⟨0, by omega, rfl, by rw [List.take_zero]; exact HXV.out, Fr.refl _ _⟩
    case round =>
      obtain ⟨k, hk, rfl, hx, hF⟩ := hrel
      have c0' : wr.cell? ⟨w.heap.size + 1, 0, none⟩ = some (.int .i64 1) := cell_of_heap hx 0
      have c1' : wr.cell? ⟨w.heap.size + 1, 1, none⟩ = some (.int .u64 ((bytesNum (i.take k) : Nat) : Int)) := cell_of_heap hx 1
      have c2' : wr.cell? ⟨w.heap.size + 1, 2, none⟩ = some (.slice none 0 0) := cell_of_heap hx 2
      have c3' : wr.cell? ⟨w.heap.size + 1, 3, none⟩ = some (.slice none 0 0) := cell_of_heap hx 3
      have z1' : wr.frozen? ⟨w.heap.size + 1, 1, none⟩ = false := frozen_of_row wr _ 1 _ _ hx
      have hnl := bytesNum_lt i k
      have HX := hid hx
      have HF := hid hF
      clear hx
      by_cases hlt : k < n
      · have hlt' : k < i.length := by have := HIL.out; omega
        have hsn := hid (bytesNum_snoc i k hlt')
        have hN56 : bytesNum (i.take k) < 72057594037927936 := by
          have : 256 ^ k ≤ 256 ^ 7 := Nat.pow_le_pow_right (by omega) (by omega)
          have h7 : (256 : Nat) ^ 7 = 72057594037927936 := rfl
          omega
        obtain ⟨blk2, off2, ha, hbl2, hS2, hc⟩ := H4.out.resolve_left (fun h => by rw [h] at hlt'; simp at hlt')
        have hbw : blk2 < w.heap.size := HAI.out _ _ ha
        injection ha with ha
        injection ha with hb1' hb2' _
        subst hb1' hb2'
        have hcx : wr.cell? ⟨bk, of + k, none⟩ = some (.int .u8 (i[k].toNat : Int)) := (HF.out.cell (p := ⟨bk, of + k, none⟩) hbl2 (fun e => by have e' : bk = w.heap.size + 1 := e; omega)).trans (hc k _ (List.getElem?_eq_getElem hlt'))
        have hcu := u8_lt i[k]
        have hcu0 : (0 : Int) ≤ (i[k].toNat : Int) := by omega
        have HHS := hid (heap_store HX.out 1 (.int .u64 ((bytesNum (i.take k) * 256 + i[k].toNat : Nat) : Int)))
        have hdl : decide ((k : Int) < (n : Int)) = true := by simp; omega
        clear hc hnl
        generalize bytesNum (i.take k) = N at *
        generalize i[k].toNat = q at *
        have w1 : IntKind.u64.wrap ((N : Int) * 256) = (N : Int) * 256 := by simp [IntKind.wrap, IntKind.signed, IntKind.bits]; omega
        have w2 : IntKind.u64.wrap ((N : Int) * 256 + (q : Int)) = (N : Int) * 256 + (q : Int) := by simp [IntKind.wrap, IntKind.signed, IntKind.bits]; omega
        have mixed : Try.prog.follows .mixedOrders = true := by kernel_rfl
        go_wp2
        go_region_law_o (fail)
        all_goals go_wp2
        all_goals go_roundw
        all_goals first
          | (simp [intOf]; omega; done)
          | exact ⟨k + 1, by omega, by go_num, by rw [hsn.out]; exact HHS.out, (HF.out.set1 1 _).drewN 1⟩
      · have hnk : k = n := by omega
        subst hnk
        have htk : i.take k = i := List.take_of_length_le (by have := HIL.out; omega)
        rw [htk] at c1' HX
        have hdl : decide ((k : Int) < (k : Int)) = false := by simp
        have HXQ := hid (HF.out.heap HXR.out (by omega))
        have s0' : wr.cell? ⟨w.heap.size, 0, none⟩ = some (.int .i64 0) := cell_of_heap HXQ.out 0
        have s1' : wr.cell? ⟨w.heap.size, 1, none⟩ = some (.int .u64 0) := cell_of_heap HXQ.out 1
        have s2' : wr.cell? ⟨w.heap.size, 2, none⟩ = some (.slice none 0 0) := cell_of_heap HXQ.out 2
        have s3' : wr.cell? ⟨w.heap.size, 3, none⟩ = some (.slice none 0 0) := cell_of_heap HXQ.out 3
        have x0' : wr.frozen? ⟨w.heap.size, 0, none⟩ = false := frozen_of_row wr _ 0 _ _ HXQ.out
        have x1' : wr.frozen? ⟨w.heap.size, 1, none⟩ = false := frozen_of_row wr _ 1 _ _ HXQ.out
        have x2' : wr.frozen? ⟨w.heap.size, 2, none⟩ = false := frozen_of_row wr _ 2 _ _ HXQ.out
        have x3' : wr.frozen? ⟨w.heap.size, 3, none⟩ = false := frozen_of_row wr _ 3 _ _ HXQ.out
        go_wp2
        have hbx := box4 (.int .i64 1) (.int .u64 ((bytesNum i : Nat) : Int)) (.slice none 0 0) (.slice none 0 0) HXQ.out
        have hFb := (HF0.out.trans' HF.out (S := fun _ => False) (S' := (· = w.heap.size + 1)) (fun k hk hs => by omega))
        have hB2 := Below.fr (Below.fr (Below.refl w.heap.size w) hFb (fun _ _ h => h.elim)) hbx.2 (fun i hi e => by omega)
        have hrl : 3 + k + r.length = rr.length + 3 := by have := HRR.out; rw [this, List.length_drop]; omega
        refine bodyPost_ret (results_ct rfl _ _ w.heap.size _ _ _ _ rfl hbx.1 Try.underlying84 rfl (by kernel_rfl)) rfl ⟨hB2, .agg #[.int .i64 1, .int .u64 ((bytesNum i : Nat) : Int), .slice none 0 0, .slice none 0 0], 3 + k, (by first | rfl | ((have hk0 : k = 0 := (by omega)); subst hk0; rfl)), hrl, ⟨_, _, _, _, rfl, ?_⟩⟩
        rw [TVr]
        exact ⟨(by have := bytesNum_lt i k; have h2 : 256 ^ k ≤ 256 ^ 8 := Nat.pow_le_pow_right (by omega) (by omega); rw [htk] at this; have h7 : (256 : Nat) ^ 8 = 18446744073709551616 := rfl; omega), _, _, [], rfl, Bs.nil0' _ _, ⟨rfl, none, 0, rfl, ⟨Nat.le_refl _, Nat.zero_le _, Nat.zero_le _⟩, fun _ => rfl, .inl rfl⟩, by rw [TVch]⟩
end Go.Proofs.Ytpomfegcifpfkaa
/- ref01's read: a list, at no depth. -/
namespace Go.Proofs.Ytpomfegcifpfkaa
open Go Go.RowKit
set_option maxRecDepth 100000 in
set_option maxHeartbeats 2000000 in
theorem refRead_deep {S : Nat → Prop} (b : Value) (xs : List UInt8) (w : World) (hb : Bs S w b xs) (t : UInt8) (i r : List UInt8) (hsp : splitF xs = some (t, i, r)) (h3 : t.toNat = 3) :
    Calls Try.prog 61 #[b, .int .i64 ((0 : Nat) : Int)] w (RetQ S w xs.length none) := by
  have H3 := hid h3
  clear h3
  obtain ⟨d, hd⟩ : ∃ d : Nat, d = 0 := ⟨0, rfl⟩
  rw [← hd]
  have HD := hid hd
  clear hd
  obtain ⟨x, y, rr, n, rfl, hn, hnr, hi, hr⟩ := splitF_cons hsp
  have HB := hid hb
  obtain ⟨a, c, rfl, ⟨hlc, hlim, hcm⟩, _, h4⟩ := hb
  unfold maxLen at hcm
  rcases h4 with h | ⟨blk, off, ha, hbl, hS, hcell⟩
  · cases h
  subst ha
  have k0 := hcell 0 t rfl
  have k1 := hcell 1 x rfl
  have k2 := hcell 2 y rfl
  rw [Nat.add_zero] at k0
  have hx := u8_lt x
  have ht := u8_lt t
  have hy := u8_lt y
  have hl : (t :: x :: y :: rr).length = rr.length + 3 := rfl
  rw [hl] at hlc hlim ⊢
  clear hcell hl hsp
  have hx0 : (0 : Int) ≤ (x.toNat : Int) := by omega
  have hy0 : (0 : Int) ≤ (y.toNat : Int) := by omega
  have ht0 : (0 : Int) ≤ (t.toNat : Int) := by omega
  generalize x.toNat = xn at *
  generalize y.toNat = yn at *
  have q0 : IntKind.i64.wrap ((xn : Int) * 256) = (xn : Int) * 256 := IntWalk.i64_in _ (by omega)
  have q1 : IntKind.i64.wrap ((xn : Int) * 256 + (yn : Int)) = (n : Int) := by rw [show (xn : Int) * 256 + (yn : Int) = (n : Int) by omega]; exact IntWalk.i64_in _ (by omega)
  have q1' : (xn : Int) * 256 + (yn : Int) = (n : Int) := by omega
  have q2 : IntKind.i64.wrap (3 + (n : Int)) = 3 + (n : Int) := IntWalk.i64_in _ (by omega)
  have q3 : (0 : Int) ≤ 3 + (n : Int) := by omega
  have q4 : (3 + (n : Int)).toNat = 3 + n := by omega
  have q5 : 3 + n ≤ c := by omega
  have q6 : 3 + n ≤ rr.length + 3 := by omega
  have q7 : (3 : Int) ≤ 3 + (n : Int) := by omega
  have q8 : 3 + (n : Int) ≤ (c : Int) := by omega
  have q9 : decide ((rr.length : Int) + 3 < 3 + (n : Int)) = false := by simp; omega
  have hnl : n ≤ 65535 := by omega
  clear hx hy
  have hil : i.length = n := by rw [hi, List.length_take]; omega
  have HSUB := hid (show ∀ wc, Fr (fun _ => False) w wc → Bs S wc (.slice (if c = 3 then some ⟨blk, off, none⟩ else some ⟨blk, off + 3, none⟩) n (c - 3)) i from fun wc hF => by
    split
    · have : i = [] := List.eq_nil_of_length_eq_zero (by omega)
      rw [this, show n = 0 by omega]; exact Bs.empty _ _ _ _ (by unfold maxLen; omega)
    · exact Bs.sub (HB.out.fr hF (fun _ _ h => h.elim)) 3 hil (by omega) (by omega) (fun j z hz => by
        have hj : j < n := by have := (List.getElem?_eq_some_iff.1 hz).1; omega
        rw [hi, List.getElem?_take_of_lt hj] at hz
        rw [Nat.add_comm]; exact hz) (by simp only [List.length_cons]; omega))
  go_enter Try.func61, Try.ntmps61
  go_wp2
  go_quiet (fail)
  try simp only [q1']
  go_upto_region 8 with (fail)
  have HF0 := hid ((((Fr.refl (fun _ => False) w).alloc (.cells #[.int .i64 0, .int .u64 0, .slice none 0 0, .slice none 0 0] 84 (0, 0))).drewN nq).alloc (.cells #[.int .i64 (t.toNat : Int), .int .u64 0, .slice none 0 0, .slice none 0 0] 84 (0, 0)))
  have hXR : ((((w.alloc (.cells #[.int .i64 0, .int .u64 0, .slice none 0 0, .slice none 0 0] 84 (0, 0))).drewN nq).alloc (.cells #[.int .i64 (t.toNat : Int), .int .u64 0, .slice none 0 0, .slice none 0 0] 84 (0, 0)))).heap[w.heap.size]? = some (.cells #[.int .i64 0, .int .u64 0, .slice none 0 0, .slice none 0 0] 84 (0, 0)) := heap_alloc2_old w _ _
  have hXV : ((((w.alloc (.cells #[.int .i64 0, .int .u64 0, .slice none 0 0, .slice none 0 0] 84 (0, 0))).drewN nq).alloc (.cells #[.int .i64 (t.toNat : Int), .int .u64 0, .slice none 0 0, .slice none 0 0] 84 (0, 0)))).heap[w.heap.size + 1]? = some (.cells #[.int .i64 (t.toNat : Int), .int .u64 0, .slice none 0 0, .slice none 0 0] 84 (0, 0)) := heap_alloc2_new w _ _
  have hszv : ((((w.alloc (.cells #[.int .i64 0, .int .u64 0, .slice none 0 0, .slice none 0 0] 84 (0, 0))).drewN nq).alloc (.cells #[.int .i64 (t.toNat : Int), .int .u64 0, .slice none 0 0, .slice none 0 0] 84 (0, 0)))).heap.size = w.heap.size + 2 := by show ((w.alloc _).alloc _).heap.size = _; simp
  have HBI := hid (HSUB.out _ HF0.out)
  have HAI := hid (show ∀ b o, (if c = 3 then (some ⟨blk, off, none⟩ : Option Addr) else some ⟨blk, off + 3, none⟩) = some ⟨b, o, none⟩ → b < w.heap.size from fun b o h => by
    split at h <;> (injection h with h; injection h with h1 _ _; omega))
  generalize ((w.alloc (.cells #[.int .i64 0, .int .u64 0, .slice none 0 0, .slice none 0 0] 84 (0, 0))).drewN nq).alloc (.cells #[.int .i64 (t.toNat : Int), .int .u64 0, .slice none 0 0, .slice none 0 0] 84 (0, 0)) = wv at *
  generalize (if c = 3 then (some ⟨blk, off, none⟩ : Option Addr) else some ⟨blk, off + 3, none⟩) = ai at *
  generalize c - 3 = ci at *
  have b0 : wv.cell? ⟨w.heap.size + 1, 0, none⟩ = some (.int .i64 (t.toNat : Int)) := cell_of_heap hXV 0
  have b1 : wv.cell? ⟨w.heap.size + 1, 1, none⟩ = some (.int .u64 0) := cell_of_heap hXV 1
  have b2 : wv.cell? ⟨w.heap.size + 1, 2, none⟩ = some (.slice none 0 0) := cell_of_heap hXV 2
  have b3 : wv.cell? ⟨w.heap.size + 1, 3, none⟩ = some (.slice none 0 0) := cell_of_heap hXV 3
  have z0 : wv.frozen? ⟨w.heap.size + 1, 0, none⟩ = false := frozen_of_row wv _ 0 _ _ hXV
  have z1 : wv.frozen? ⟨w.heap.size + 1, 1, none⟩ = false := frozen_of_row wv _ 1 _ _ hXV
  have z2 : wv.frozen? ⟨w.heap.size + 1, 2, none⟩ = false := frozen_of_row wv _ 2 _ _ hXV
  have z3 : wv.frozen? ⟨w.heap.size + 1, 3, none⟩ = false := frozen_of_row wv _ 3 _ _ hXV
  have r0 : wv.cell? ⟨w.heap.size, 0, none⟩ = some (.int .i64 0) := cell_of_heap hXR 0
  have r1 : wv.cell? ⟨w.heap.size, 1, none⟩ = some (.int .u64 0) := cell_of_heap hXR 1
  have r2 : wv.cell? ⟨w.heap.size, 2, none⟩ = some (.slice none 0 0) := cell_of_heap hXR 2
  have r3 : wv.cell? ⟨w.heap.size, 3, none⟩ = some (.slice none 0 0) := cell_of_heap hXR 3
  have y0 : wv.frozen? ⟨w.heap.size, 0, none⟩ = false := frozen_of_row wv _ 0 _ _ hXR
  have y1 : wv.frozen? ⟨w.heap.size, 1, none⟩ = false := frozen_of_row wv _ 1 _ _ hXR
  have y2 : wv.frozen? ⟨w.heap.size, 2, none⟩ = false := frozen_of_row wv _ 2 _ _ hXR
  have y3 : wv.frozen? ⟨w.heap.size, 3, none⟩ = false := frozen_of_row wv _ 3 _ _ hXR
  have HXR := hid hXR
  have HXV := hid hXV
  clear hXR hXV
  have e1 : (t.toNat : Int) = 3 := by have := H3.out; omega
  have hd0 : ((d : Int) == 0) = true := by rw [HD.out]; rfl
  go_wp2
  all_goals
    have hbx := box4 (.int .i64 0) (.int .u64 0) (.slice none 0 0) (.slice none 0 0) HXR.out
    exact bodyPost_ret (results_ct rfl _ _ w.heap.size _ _ _ _ rfl hbx.1 Try.underlying84 rfl (by kernel_rfl)) rfl ⟨Below.fr (Below.fr (Below.refl w.heap.size w) HF0.out (fun _ _ h => h.elim)) hbx.2 (fun i hi e => by omega), rfl⟩
/-- A row of the document's values. -/
theorem et_rvals : ET Try.prog 82 84 4 64 (.agg #[.int .i64 0, .int .u64 0, .slice none 0 0, .slice none 0 0]) :=
  ⟨Try.underlying82, by kernel_rfl, by kernel_rfl, by decide, by decide⟩
/-- The state of the list's loop. -/
structure RS (S : Nat → Prop) (w wr : World) (l : List TV) (al : Option Addr) (cl : Nat) (ks : List Value) : Prop where
  res : wr.heap[w.heap.size]? = some (.cells #[.int .i64 0, .int .u64 0, .slice none 0 0, .slice none 0 0] 84 (0, 0))
  box : wr.heap[w.heap.size + 1]? = some (.cells #[.int .i64 3, .int .u64 0, .slice none 0 0, .slice al l.length cl] 84 (0, 0))
  own : Own wr (w.heap.size + 2) 84 4 (.slice al l.length cl) l.length ks
  ch : TVch (fun k => S k ∨ k = w.heap.size ∨ k = w.heap.size + 1 ∨ mine (.slice al l.length cl) k) wr l ks
  below : Below w.heap.size w wr
theorem RS.step {S SV : Nat → Prop} {w wr w4 w5 : World} {l : List TV} {v : TV} {al a' : Option Addr} {cl c' n' : Nat} {ks c : List Value} (h : RS S w wr l al cl ks) (hf : Fr (fun _ => False) wr w4) (hv : TVr SV w4 v c)
    (hSV : ∀ k, k < w4.heap.size → (S k ∨ k = w.heap.size ∨ k = w.heap.size + 1 ∨ mine (.slice al l.length cl) k) → SV k)
    (ho : Own w5 (w.heap.size + 2) 84 4 (.slice a' n' c') n' (ks ++ c)) (hn' : n' = (l ++ [v]).length) (hf5 : Fr (mine (.slice al l.length cl)) w4 w5)
    (hm : ∀ k, mine (.slice a' n' c') k → mine (.slice al l.length cl) k ∨ w4.heap.size ≤ k) :
    RS S w (w5.setCell ⟨w.heap.size + 1, 3, none⟩ (.slice a' n' c')) (l ++ [v]) a' c' (ks ++ c) ∧ Fr (fun k => w.heap.size ≤ k) wr (w5.setCell ⟨w.heap.size + 1, 3, none⟩ (.slice a' n' c')) := by
  subst hn'
  have hB : ¬ mine (.slice al l.length cl) (w.heap.size + 1) := fun hk => by have := (Own.mine_ge h.own hk).1; omega
  have hB0 : ¬ mine (.slice al l.length cl) w.heap.size := fun hk => by have := (Own.mine_ge h.own hk).1; omega
  have hB' : ¬ mine (.slice a' (l ++ [v]).length c') (w.heap.size + 1) := fun hk => by have := (Own.mine_ge ho hk).1; omega
  have hF6 : Fr (fun k => k = w.heap.size + 1 ∨ mine (.slice al l.length cl) k) w4 (w5.setCell ⟨w.heap.size + 1, 3, none⟩ (.slice a' (l ++ [v]).length c')) :=
    (hf5.mono (fun _ _ h => .inr h)).setCell (p := ⟨w.heap.size + 1, 3, none⟩) (fun _ => .inl rfl) _
  have hnew : ∀ k, k < w4.heap.size → (S k ∨ k = w.heap.size ∨ k = w.heap.size + 1 ∨ mine (.slice a' (l ++ [v]).length c') k) → (S k ∨ k = w.heap.size ∨ k = w.heap.size + 1 ∨ mine (.slice al l.length cl) k) :=
    fun k hk hs => hs.imp id (fun hs => hs.imp id (fun hs => hs.imp id (fun hs => (hm k hs).resolve_right (by omega))))
  refine ⟨⟨?_, ?_, ?_, ?_, ?_⟩, (hf.mono (fun _ _ h => h.elim)).trans (hF6.mono (fun k _ hs => ?_))⟩
  · exact hF6.heap (hf.heap h.res id) (fun hs => hs.elim (fun e => by omega) hB0)
  · exact heap_store (hf5.heap (hf.heap h.box id) hB) 3 (.slice a' (l ++ [v]).length c')
  · exact Own.fr ho ((Fr.refl (· = w.heap.size + 1) w5).setCell (p := ⟨w.heap.size + 1, 3, none⟩) (fun _ => rfl) _) (fun k hk e => hB' (e ▸ hk))
  · refine TVch.snoc (TVr.shift hv hF6 (fun k hk hs => hSV k hk (hs.elim (fun h => .inr (.inr (.inl h))) (fun h => .inr (.inr (.inr h))))) (fun k hk hs => hSV k hk (hnew k hk hs))) ?_
    have hc4 : TVch (fun k => S k ∨ k = w.heap.size ∨ k = w.heap.size + 1 ∨ mine (.slice al l.length cl) k) w4 l ks := TVch.fr hf (fun _ _ h => h.elim) l ks h.ch
    exact TVch.shift hc4 hF6 (fun k hk hs => hs.elim (fun h => .inr (.inr (.inl h))) (fun h => .inr (.inr (.inr h)))) hnew
  · refine Below.fr h.below ((hf.mono (S' := fun k => k = w.heap.size + 1 ∨ mine (.slice al l.length cl) k) (fun _ _ h => h.elim)).trans hF6) (fun k hk hs => ?_)
    rcases hs with rfl | hs
    · omega
    · have := (Own.mine_ge h.own hs).1; omega
  · rcases hs with rfl | hs
    · omega
    · have := (Own.mine_ge h.own hs).1; omega
end Go.Proofs.Ytpomfegcifpfkaa
/- ref01's read: a list. -/
namespace Go.Proofs.Ytpomfegcifpfkaa
open Go Go.RowKit
theorem jm_kk {a n j m k : Nat} (h1 : a = n - (j + m)) (hm : m ≤ n - j) (h3 : k + a = n - j) : j + m = j + k := by omega
theorem readWith_drop {sub : List UInt8 → Option (List TV)} {b : List UInt8} {v : TV} {r : List UInt8} (h : readWith sub b = some (v, r)) : ∃ m, m ≤ b.length ∧ r = b.drop m := by
  unfold readWith at h
  cases hs : splitF b with
  | none => rw [hs] at h; cases h
  | some x =>
    obtain ⟨t, i, r'⟩ := x
    obtain ⟨x, y, rr, n, rfl, _, hn, _, hr⟩ := splitF_cons hs
    have key : ∃ m, m ≤ (t :: x :: y :: rr).length ∧ r' = (t :: x :: y :: rr).drop m := ⟨3 + n, by simp; omega, by rw [hr, Nat.add_comm]; rfl⟩
    rw [hs] at h
    simp only [Option.bind_some] at h
    split at h
    · split at h
      · simp only [Option.some.injEq, Prod.mk.injEq] at h; rw [← h.2]; exact key
      · cases h
    · split at h
      · simp only [Option.some.injEq, Prod.mk.injEq] at h; rw [← h.2]; exact key
      · split at h
        · cases hsub : sub i with
          | none => rw [hsub] at h; cases h
          | some l =>
            rw [hsub] at h
            simp only [Option.map_some, Option.some.injEq, Prod.mk.injEq] at h
            rw [← h.2]; exact key
        · cases h
theorem readF_drop {d : Nat} {b : List UInt8} {v : TV} {r : List UInt8} (h : readF d b = some (v, r)) : ∃ m, m ≤ b.length ∧ r = b.drop m := by
  cases d with
  | zero => rw [readF] at h; exact readWith_drop h
  | succ d => rw [readF] at h; exact readWith_drop h
set_option maxRecDepth 100000 in
set_option maxHeartbeats 4000000 in
theorem refRead_list {S : Nat → Prop} (d : Nat) (hd : d < 100) (b : Value) (xs : List UInt8) (w : World) (hSB : SB S w) (hb : Bs S w b xs) (t : UInt8) (i r : List UInt8) (hsp : splitF xs = some (t, i, r)) (h3 : t.toNat = 3)
    (ih : ∀ (S : Nat → Prop) (b : Value) (xs : List UInt8) (w : World), SB S w → Bs S w b xs → Calls Try.prog 61 #[b, .int .i64 (d : Int)] w (RetQ S w xs.length (readF d xs))) :
    Calls Try.prog 61 #[b, .int .i64 ((d + 1 : Nat) : Int)] w (RetQ S w xs.length ((readsF d i).map fun l => (.mk 3 0 [] l, r))) := by
  have H3 := hid h3
  have HSB := hid hSB
  have IH := hid ih
  obtain ⟨d1, hd1⟩ : ∃ d1 : Nat, d1 = d + 1 := ⟨_, rfl⟩
  rw [← hd1]
  have HD := hid hd1
  clear h3 hSB ih hd1
  obtain ⟨x, y, rr, n, rfl, hn, hnr, hi, hr⟩ := splitF_cons hsp
  have HB := hid hb
  obtain ⟨a, c, rfl, ⟨hlc, hlim, hcm⟩, _, h4⟩ := hb
  unfold maxLen at hcm
  rcases h4 with h | ⟨blk, off, ha, hbl, hS, hcell⟩
  · cases h
  subst ha
  have k0 := hcell 0 t rfl
  have k1 := hcell 1 x rfl
  have k2 := hcell 2 y rfl
  rw [Nat.add_zero] at k0
  have hx := u8_lt x
  have ht := u8_lt t
  have hy := u8_lt y
  have hl : (t :: x :: y :: rr).length = rr.length + 3 := rfl
  rw [hl] at hlc hlim ⊢
  clear hcell hl hsp
  have hx0 : (0 : Int) ≤ (x.toNat : Int) := by omega
  have hy0 : (0 : Int) ≤ (y.toNat : Int) := by omega
  have ht0 : (0 : Int) ≤ (t.toNat : Int) := by omega
  generalize x.toNat = xn at *
  generalize y.toNat = yn at *
  have q0 : IntKind.i64.wrap ((xn : Int) * 256) = (xn : Int) * 256 := IntWalk.i64_in _ (by omega)
  have q1 : IntKind.i64.wrap ((xn : Int) * 256 + (yn : Int)) = (n : Int) := by rw [show (xn : Int) * 256 + (yn : Int) = (n : Int) by omega]; exact IntWalk.i64_in _ (by omega)
  have q1' : (xn : Int) * 256 + (yn : Int) = (n : Int) := by omega
  have q2 : IntKind.i64.wrap (3 + (n : Int)) = 3 + (n : Int) := IntWalk.i64_in _ (by omega)
  have q3 : (0 : Int) ≤ 3 + (n : Int) := by omega
  have q4 : (3 + (n : Int)).toNat = 3 + n := by omega
  have q5 : 3 + n ≤ c := by omega
  have q6 : 3 + n ≤ rr.length + 3 := by omega
  have q7 : (3 : Int) ≤ 3 + (n : Int) := by omega
  have q8 : 3 + (n : Int) ≤ (c : Int) := by omega
  have q9 : decide ((rr.length : Int) + 3 < 3 + (n : Int)) = false := by simp; omega
  have hnl : n ≤ 65535 := by omega
  clear hx hy
  have hil : i.length = n := by rw [hi, List.length_take]; omega
  have HSUB := hid (show ∀ wc, Fr (fun _ => False) w wc → Bs S wc (.slice (if c = 3 then some ⟨blk, off, none⟩ else some ⟨blk, off + 3, none⟩) n (c - 3)) i from fun wc hF => by
    split
    · have : i = [] := List.eq_nil_of_length_eq_zero (by omega)
      rw [this, show n = 0 by omega]; exact Bs.empty _ _ _ _ (by unfold maxLen; omega)
    · exact Bs.sub (HB.out.fr hF (fun _ _ h => h.elim)) 3 hil (by omega) (by omega) (fun j z hz => by
        have hj : j < n := by have := (List.getElem?_eq_some_iff.1 hz).1; omega
        rw [hi, List.getElem?_take_of_lt hj] at hz
        rw [Nat.add_comm]; exact hz) (by simp only [List.length_cons]; omega))
  go_enter Try.func61, Try.ntmps61
  go_wp2
  go_quiet (fail)
  try simp only [q1']
  go_upto_region 8 with (fail)
  have HF0 := hid ((((Fr.refl (fun _ => False) w).alloc (.cells #[.int .i64 0, .int .u64 0, .slice none 0 0, .slice none 0 0] 84 (0, 0))).drewN nq).alloc (.cells #[.int .i64 (t.toNat : Int), .int .u64 0, .slice none 0 0, .slice none 0 0] 84 (0, 0)))
  have hXR : ((((w.alloc (.cells #[.int .i64 0, .int .u64 0, .slice none 0 0, .slice none 0 0] 84 (0, 0))).drewN nq).alloc (.cells #[.int .i64 (t.toNat : Int), .int .u64 0, .slice none 0 0, .slice none 0 0] 84 (0, 0)))).heap[w.heap.size]? = some (.cells #[.int .i64 0, .int .u64 0, .slice none 0 0, .slice none 0 0] 84 (0, 0)) := heap_alloc2_old w _ _
  have hXV : ((((w.alloc (.cells #[.int .i64 0, .int .u64 0, .slice none 0 0, .slice none 0 0] 84 (0, 0))).drewN nq).alloc (.cells #[.int .i64 (t.toNat : Int), .int .u64 0, .slice none 0 0, .slice none 0 0] 84 (0, 0)))).heap[w.heap.size + 1]? = some (.cells #[.int .i64 (t.toNat : Int), .int .u64 0, .slice none 0 0, .slice none 0 0] 84 (0, 0)) := heap_alloc2_new w _ _
  have hszv : ((((w.alloc (.cells #[.int .i64 0, .int .u64 0, .slice none 0 0, .slice none 0 0] 84 (0, 0))).drewN nq).alloc (.cells #[.int .i64 (t.toNat : Int), .int .u64 0, .slice none 0 0, .slice none 0 0] 84 (0, 0)))).heap.size = w.heap.size + 2 := by show ((w.alloc _).alloc _).heap.size = _; simp
  have HBI := hid (HSUB.out _ HF0.out)
  have HAI := hid (show ∀ b o, (if c = 3 then (some ⟨blk, off, none⟩ : Option Addr) else some ⟨blk, off + 3, none⟩) = some ⟨b, o, none⟩ → b < w.heap.size from fun b o h => by
    split at h <;> (injection h with h; injection h with h1 _ _; omega))
  generalize ((w.alloc (.cells #[.int .i64 0, .int .u64 0, .slice none 0 0, .slice none 0 0] 84 (0, 0))).drewN nq).alloc (.cells #[.int .i64 (t.toNat : Int), .int .u64 0, .slice none 0 0, .slice none 0 0] 84 (0, 0)) = wv at *
  generalize (if c = 3 then (some ⟨blk, off, none⟩ : Option Addr) else some ⟨blk, off + 3, none⟩) = ai at *
  generalize c - 3 = ci at *
  have b0 : wv.cell? ⟨w.heap.size + 1, 0, none⟩ = some (.int .i64 (t.toNat : Int)) := cell_of_heap hXV 0
  have b1 : wv.cell? ⟨w.heap.size + 1, 1, none⟩ = some (.int .u64 0) := cell_of_heap hXV 1
  have b2 : wv.cell? ⟨w.heap.size + 1, 2, none⟩ = some (.slice none 0 0) := cell_of_heap hXV 2
  have b3 : wv.cell? ⟨w.heap.size + 1, 3, none⟩ = some (.slice none 0 0) := cell_of_heap hXV 3
  have z0 : wv.frozen? ⟨w.heap.size + 1, 0, none⟩ = false := frozen_of_row wv _ 0 _ _ hXV
  have z1 : wv.frozen? ⟨w.heap.size + 1, 1, none⟩ = false := frozen_of_row wv _ 1 _ _ hXV
  have z2 : wv.frozen? ⟨w.heap.size + 1, 2, none⟩ = false := frozen_of_row wv _ 2 _ _ hXV
  have z3 : wv.frozen? ⟨w.heap.size + 1, 3, none⟩ = false := frozen_of_row wv _ 3 _ _ hXV
  have r0 : wv.cell? ⟨w.heap.size, 0, none⟩ = some (.int .i64 0) := cell_of_heap hXR 0
  have r1 : wv.cell? ⟨w.heap.size, 1, none⟩ = some (.int .u64 0) := cell_of_heap hXR 1
  have r2 : wv.cell? ⟨w.heap.size, 2, none⟩ = some (.slice none 0 0) := cell_of_heap hXR 2
  have r3 : wv.cell? ⟨w.heap.size, 3, none⟩ = some (.slice none 0 0) := cell_of_heap hXR 3
  have y0 : wv.frozen? ⟨w.heap.size, 0, none⟩ = false := frozen_of_row wv _ 0 _ _ hXR
  have y1 : wv.frozen? ⟨w.heap.size, 1, none⟩ = false := frozen_of_row wv _ 1 _ _ hXR
  have y2 : wv.frozen? ⟨w.heap.size, 2, none⟩ = false := frozen_of_row wv _ 2 _ _ hXR
  have y3 : wv.frozen? ⟨w.heap.size, 3, none⟩ = false := frozen_of_row wv _ 3 _ _ hXR
  have HXR := hid hXR
  have HXV := hid hXV
  clear hXR hXV
  have e1 : (t.toNat : Int) = 3 := by have := H3.out; omega
  rw [e1] at HXV b0
  simp only [e1]
  have hd0 : ((d1 : Int) == 0) = false := by rw [HD.out]; simp only [beq_eq_false_iff_ne, ne_eq]; omega
  have hwd : IntKind.i64.wrap ((d1 : Int) - 1) = (d : Int) := by rw [show (d1 : Int) - 1 = (d : Int) from by have := HD.out; omega]; exact IntWalk.i64_in _ (by omega)
  have hdd : (d1 : Int) - 1 = (d : Int) := by have := HD.out; omega
  have HBN := hid ((HSUB.out w (Fr.refl _ _)).new HF0.out (fun _ _ h => h.elim))
  clear HSUB
  have HBV := hid (Below.fr (Below.refl w.heap.size w) HF0.out (fun _ _ h => h.elim))
  have HRS := hid (show RS S w wv [] none 0 [] from ⟨HXR.out, HXV.out, Own.nil _ _ _ _, by rw [TVch], HBV.out⟩)
  clear b1 b2 b3 z0 z1 z2 z3 r0 r1 r2 r3 y0 y1 y2 y3
  have HIL := hid hil
  have HRR := hid hr
  clear hi hr hil
  obtain ⟨hnci, hcim⟩ : n ≤ ci ∧ ci ≤ 9223372036854775807 := by
    obtain ⟨_, _, hsl, ⟨hf1a, hf2a, hf3a⟩, _⟩ := HBN.out
    injection hsl with _ _ ec
    subst ec
    have := HIL.out
    unfold maxLen at hf3a
    exact ⟨by omega, by omega⟩
  go_wp2
  go_loopw [10] (fun s10 wr => ∃ (l : List TV) (j : Nat) (al : Option Addr) (cl : Nat) (ks : List Value), s10 = .int .i64 (j : Int) ∧ j ≤ n ∧ RS S w wr l al cl ks ∧
    readsF d i = (readsF d (i.drop j)).map (l ++ ·) ∧ 3 * l.length ≤ j ∧ Bs (SN S w) wr (.slice ai n ci) i) (fun s _ => n - (intOf s).toNat)
  case atStart => exact ⟨[], 0, none, 0, [], rfl, by omega, HRS.out, by simp, by simp, HBN.out⟩
  case round =>
    obtain ⟨l, j, al, cl, ks, rfl, hj, hL, hR, h3l, hbj⟩ := hrel
    have hlt1 := lt_of_heap hL.box
    have hlt0 := lt_of_heap hL.res
    have b0 : wr.cell? ⟨w.heap.size + 1, 0, none⟩ = some (.int .i64 3) := cell_of_heap hL.box 0
    have b1 : wr.cell? ⟨w.heap.size + 1, 1, none⟩ = some (.int .u64 0) := cell_of_heap hL.box 1
    have b2 : wr.cell? ⟨w.heap.size + 1, 2, none⟩ = some (.slice none 0 0) := cell_of_heap hL.box 2
    have b3 : wr.cell? ⟨w.heap.size + 1, 3, none⟩ = some (.slice al l.length cl) := cell_of_heap hL.box 3
    have z3 : wr.frozen? ⟨w.heap.size + 1, 3, none⟩ = false := frozen_of_row wr _ 3 _ _ hL.box
    have r0 : wr.cell? ⟨w.heap.size, 0, none⟩ = some (.int .i64 0) := cell_of_heap hL.res 0
    have r1 : wr.cell? ⟨w.heap.size, 1, none⟩ = some (.int .u64 0) := cell_of_heap hL.res 1
    have r2 : wr.cell? ⟨w.heap.size, 2, none⟩ = some (.slice none 0 0) := cell_of_heap hL.res 2
    have r3 : wr.cell? ⟨w.heap.size, 3, none⟩ = some (.slice none 0 0) := cell_of_heap hL.res 3
    have y0 : wr.frozen? ⟨w.heap.size, 0, none⟩ = false := frozen_of_row wr _ 0 _ _ hL.res
    have y1 : wr.frozen? ⟨w.heap.size, 1, none⟩ = false := frozen_of_row wr _ 1 _ _ hL.res
    have y2 : wr.frozen? ⟨w.heap.size, 2, none⟩ = false := frozen_of_row wr _ 2 _ _ hL.res
    have y3 : wr.frozen? ⟨w.heap.size, 3, none⟩ = false := frozen_of_row wr _ 3 _ _ hL.res
    have HL := hid hL
    have HR := hid hR
    have HBJ := hid hbj
    clear hL hR hbj
    by_cases hjn : j < n
    · have hil := HIL.out
      obtain ⟨_, _, hsl, _, _, h4⟩ := HBN.out
      injection hsl with ea en ec
      subst ea ec
      clear en
      obtain ⟨bk, of, rfl, _⟩ := h4.resolve_left (fun h => by rw [h] at hil; simp at hil; omega)
      have hcj : ¬ ci = j := by omega
      have q20 : (0 : Int) ≤ (j : Int) := by omega
      have q21 : (j : Int) ≤ (n : Int) := by omega
      have q22 : (j : Int) ≤ (ci : Int) := by omega
      have hne : i.drop j ≠ [] := fun h => by
        have := congrArg List.length h
        simp at this; omega
      have hdl : (i.drop j).length = n - j := by rw [List.length_drop, hil]
      have hsub : Bs (fun k => SN S w k ∧ k < wr.heap.size) wr (.slice (some ⟨bk, of + j, none⟩) (n - j) (ci - j)) (i.drop j) := by
        have h1 : Bs (SN S w) wr (.slice (some ⟨bk, of, none⟩) i.length ci) i := by rw [hil]; exact HBJ.out
        exact (h1.sub j hdl (by omega) (by omega) (fun q y hy => by rw [List.getElem?_drop] at hy; exact hy) (by omega)).mono (fun k _ h => h.1)
      have hIH := IH.out (fun k => SN S w k ∧ k < wr.heap.size) _ (i.drop j) wr (fun k h => h.2) hsub
      have hstep := readsF_step d (i.drop j) hne
      clear hsub hne hil h4
      cases hrd : readF d (i.drop j) with
      | none =>
        rw [hrd] at hIH hstep
        have hR2 : readsF d i = none := by rw [HR.out, hstep]; rfl
        have HC := hid hIH
        have HDL := hid hdl
        clear hIH hstep hdl hrd
        go_wp2_with (go_at_call 61; refine HC.out.mono ?_; rintro e w2 ⟨hb2, rfl⟩; have hsz2 : wr.heap.size ≤ w2.heap.size := hb2.size; have HX := hid ((heap_alloc_old w2 (.cells #[.int .i64 0, .int .u64 0, .slice none 0 0, .slice none 0 0] 84 (0, 0)) (by omega)).trans ((hb2.block _ hlt0).trans HL.out.res)); have s0 := cell_of_heap HX.out 0; have s1 := cell_of_heap HX.out 1; have s2 := cell_of_heap HX.out 2; have s3 := cell_of_heap HX.out 3; have x0 := frozen_of_row _ _ 0 _ _ HX.out; have x1 := frozen_of_row _ _ 1 _ _ HX.out; have x2 := frozen_of_row _ _ 2 _ _ HX.out; have x3 := frozen_of_row _ _ 3 _ _ HX.out)
        rw [hR2, Option.map_none]
        have hbx := box4 (.int .i64 0) (.int .u64 0) (.slice none 0 0) (.slice none 0 0) HX.out
        have hB : Below w.heap.size w w2 := HL.out.below.trans (hb2.mono (by omega))
        exact bodyPost_ret (results_ct rfl _ _ w.heap.size _ _ _ _ rfl hbx.1 Try.underlying84 rfl (by kernel_rfl)) rfl ⟨Below.fr (hB.alloc (by omega) _) hbx.2 (fun i hi e => by omega), rfl⟩
      | some p =>
        obtain ⟨v, r'⟩ := p
        rw [hrd] at hIH hstep
        obtain ⟨m, hm, hrm⟩ := readF_drop hrd
        have hlt := readF_lt hrd
        rw [hdl] at hlt hm
        have HC := hid hIH
        have HST := hid hstep
        have HRM := hid hrm
        clear hIH hstep hrm hdl hrd
        have q30 : (0 : Int) ≤ (i.length : Int) := by omega
        go_upto_region 27 with (go_at_call 61; refine HC.out.mono ?_; rintro e w2 ⟨hb2, x, kk, rfl, hkl, ⟨x0, x1, x2, x3, rfl, hv2⟩⟩; obtain ⟨hvn, vb, vl, kv, hce, hbv, hrv, _⟩ := hv2.cells; obtain ⟨ab, cb, rfl, _⟩ := hbv; obtain ⟨_, al2, cl2, rfl, _⟩ := hrv; simp only [List.cons.injEq, and_true] at hce; obtain ⟨rfl, rfl, rfl, rfl⟩ := hce; obtain ⟨hc2, hf2⟩ := wold hb2; have hsz2 : wr.heap.size ≤ w2.heap.size := hb2.size; rw [List.length_drop, HIL.out] at hkl; have hk3 : 3 ≤ kk := (by omega); have hkz : ((kk : Int) == 0) = false := (by simp only [beq_eq_false_iff_ne, ne_eq]; omega))
        have hxX := heap_alloc_new w2 (.cells #[.int .i64 v.tag, .int .u64 (v.num : Int), .slice ab v.byt.length cb, .slice al2 v.lst.length cl2] 84 (0, 0))
        have hF3 : Fr (fun _ => False) wr (w2.alloc (.cells #[.int .i64 v.tag, .int .u64 (v.num : Int), .slice ab v.byt.length cb, .slice al2 v.lst.length cl2] 84 (0, 0))) := (Fr.of_below hb2).trans ((Fr.refl (fun _ => False) w2).alloc _)
        have hv3 := TVr.fr ((Fr.refl (fun _ => False) w2).alloc (.cells #[.int .i64 v.tag, .int .u64 (v.num : Int), .slice ab v.byt.length cb, .slice al2 v.lst.length cl2] 84 (0, 0))) (fun _ _ h => h.elim) _ _ hv2
        have hsz3 : (w2.alloc (.cells #[.int .i64 v.tag, .int .u64 (v.num : Int), .slice ab v.byt.length cb, .slice al2 v.lst.length cl2] 84 (0, 0))).heap.size = w2.heap.size + 1 := by simp
        generalize w2.alloc (.cells #[.int .i64 v.tag, .int .u64 (v.num : Int), .slice ab v.byt.length cb, .slice al2 v.lst.length cl2] 84 (0, 0)) = w3 at *
        have hX0 := cell_of_heap hxX 0
        have hX1 := cell_of_heap hxX 1
        have hX2 := cell_of_heap hxX 2
        have hX3 := cell_of_heap hxX 3
        simp at hX0 hX1 hX2 hX3
        have b3' : w3.cell? ⟨w.heap.size + 1, 3, none⟩ = some (.slice al l.length cl) := (hF3.cell (p := ⟨w.heap.size + 1, 3, none⟩) hlt1 id).trans b3
        have z3' : w3.frozen? ⟨w.heap.size + 1, 3, none⟩ = false := (hF3.frozen (p := ⟨w.heap.size + 1, 3, none⟩) hlt1 id).trans z3
        have HV3 := hid hv3
        have HF3 := hid hF3
        have HKL := hid hkl
        have hjk : j + kk ≤ n := by omega
        have q31 : (0 : Int) ≤ (kk : Int) := by omega
        have q32 : (j : Int) + (kk : Int) ≤ 65535 := by omega
        have hbase : w.heap.size + 2 ≤ w3.heap.size := by omega
        have hll : (l.length + 1) * 64 ≤ 140737488355328 := by omega
        clear hv3 hF3 hb2 hc2 hf2 hv2 b0 b1 b2 b3 z3 hxX r0 r1 r2 r3 y0 y1 y2 y3 hkl
        have HSZ3 := hid hsz3
        clear hsz3
        have HNM : ¬ mine (.slice al l.length cl) (w.heap.size + 1) := fun hk => by have := (Own.mine_ge HL.out.own hk).1; omega
        go_wp2_with (at_builtin; refine wpl_append (v := .slice al l.length cl) (S := fun _ => False) rfl rfl et_rvals rfl (Own.fr (Own.fr HL.out.own HF3.out (fun _ _ h => h)) (by repeat (first | exact Fr.refl _ _ | refine Fr.drew ?_ | refine Fr.alloc ?_ _)) (fun _ _ h => h)) rfl (row_atk (heap_alloc_new w3 _) rfl (by omega)) (by simp [Value.oneCell']) (by omega) (by simp; omega) ?_; intro v5 w5 ho5 hf5 hm5; obtain ⟨a5, c5, rfl, _⟩ := ho5.len; have hc5 : w5.cell? ⟨w.heap.size + 1, 3, none⟩ = some (.slice al l.length cl) := (hf5.cell (p := ⟨w.heap.size + 1, 3, none⟩) (by simp; omega) HNM).trans ((((Fr.refl (fun _ => False) w3).alloc _).cell (p := ⟨w.heap.size + 1, 3, none⟩) (by simp; omega) id).trans b3'); have hz5 : w5.frozen? ⟨w.heap.size + 1, 3, none⟩ = false := (hf5.frozen (p := ⟨w.heap.size + 1, 3, none⟩) (by simp; omega) HNM).trans ((((Fr.refl (fun _ => False) w3).alloc _).frozen (p := ⟨w.heap.size + 1, 3, none⟩) (by simp; omega) id).trans z3'))
        go_roundw
        case rel =>
          have hst := RS.step (v := v) HL.out (HF3.out.alloc _) (TVr.fr ((Fr.refl (fun _ => False) w3).alloc _) (fun _ _ h => h.elim) _ _ HV3.out) (fun k hk hs => by
            rcases hs with hs | hs | hs | hs
            · have := HSB.out k hs
              exact ⟨.inl hs, by omega⟩
            · exact ⟨.inr (by omega), by omega⟩
            · exact ⟨.inr (by omega), by omega⟩
            · have := Own.mine_ge HL.out.own hs
              exact ⟨.inr (by omega), by omega⟩) ho5 (by simp) hf5 hm5
          have hfin := hst.2
          refine ⟨l ++ [v], j + kk, a5, c5, _, by go_num, hjk, hst.1, ?_, ?_, ?_⟩
          · have hr' : r' = i.drop (j + kk) := by
              have h1 := HRM.out
              rw [List.drop_drop] at h1
              have h2 : r'.length = n - (j + m) := by rw [h1, List.length_drop, HIL.out]
              have h3 := HKL.out
              rw [h1, jm_kk h2 hm h3]
            rw [HR.out, HST.out, Option.bind_some, Option.map_map, ← hr']
            congr 1
            funext y
            simp
          · simp only [List.length_append, List.length_cons, List.length_nil]; omega
          · exact HBJ.out.fr hfin (fun k hk hs => .inr hs)
        case measure => simp [intOf]; omega
    · have hjn' : j = n := by omega
      have hdn : i.drop j = [] := List.drop_of_length_le (by have := HIL.out; omega)
      have hR2 : readsF d i = some l := by rw [HR.out, hdn, readsF_nil]; simp
      clear hdn
      subst hjn'
      have hdf : decide ((j : Int) < (j : Int)) = false := by simp
      go_wp2
      rw [hR2, Option.map_some]
      have hbx := box4 (.int .i64 3) (.int .u64 0) (.slice none 0 0) (.slice al l.length cl) HL.out.res
      have hrl : 3 + j + r.length = rr.length + 3 := by have := HRR.out; rw [this, List.length_drop]; omega
      refine bodyPost_ret (results_ct rfl _ _ w.heap.size _ _ _ _ rfl hbx.1 Try.underlying84 rfl (by kernel_rfl)) rfl ⟨Below.fr HL.out.below hbx.2 (fun i hi e => by omega), _, 3 + j, rfl, hrl, ⟨_, _, _, _, rfl, ?_⟩⟩
      rw [TVr]
      refine ⟨by omega, _, _, ks, rfl, Bs.nil0' _ _, ((Own.fr HL.out.own hbx.2 (fun k hk e => by have := (Own.mine_ge HL.out.own hk).1; omega)).row (fun k hk _ hs => by have := HSB.out k hs; omega)), ?_⟩
      exact TVch.mono (fun k _ hs => .inl hs) _ _ (TVch.fr hbx.2 (fun k _ e => .inr (.inl e)) _ _ HL.out.ch)
end Go.Proofs.Ytpomfegcifpfkaa
/- ref01's read, whole; Take, Get. -/
namespace Go.Proofs.Ytpomfegcifpfkaa
open Go Go.RowKit
theorem refRead_ok : ∀ (d : Nat), d < 100 → ∀ (S : Nat → Prop) (b : Value) (xs : List UInt8) (w : World), SB S w → Bs S w b xs → Calls Try.prog 61 #[b, .int .i64 (d : Int)] w (RetQ S w xs.length (readF d xs)) := by
  intro d
  induction d with
  | zero =>
    intro _ S b xs w hSB hb
    cases hs : splitF xs with
    | none => rw [readF_none hs]; exact refRead_short 0 b xs w hb hs
    | some x =>
      obtain ⟨t, i, r⟩ := x
      rw [readF]
      unfold readWith
      rw [hs, Option.bind_some]
      simp only
      split
      · rename_i h1
        split
        · rename_i h2; exact refRead_num 0 b xs w hb t i r hs h1 h2.1 h2.2
        · rename_i h2; exact refRead_bad 0 b xs w hb t i r hs h1 h2
      · rename_i h1
        split
        · rename_i h2; exact refRead_bytes 0 b xs w hSB hb t i r hs h2
        · rename_i h2
          split
          · rename_i h3; exact refRead_deep b xs w hb t i r hs h3
          · rename_i h3; exact refRead_other 0 b xs w hb t i r hs h1 h2 h3
  | succ d ih =>
    intro hd S b xs w hSB hb
    cases hs : splitF xs with
    | none => rw [readF_none hs]; exact refRead_short (d + 1) b xs w hb hs
    | some x =>
      obtain ⟨t, i, r⟩ := x
      rw [readF]
      unfold readWith
      rw [hs, Option.bind_some]
      simp only
      split
      · rename_i h1
        split
        · rename_i h2; exact refRead_num (d + 1) b xs w hb t i r hs h1 h2.1 h2.2
        · rename_i h2; exact refRead_bad (d + 1) b xs w hb t i r hs h1 h2
      · rename_i h1
        split
        · rename_i h2; exact refRead_bytes (d + 1) b xs w hSB hb t i r hs h2
        · rename_i h2
          split
          · rename_i h3; exact refRead_list d (by omega) b xs w hSB hb t i r hs h3 (fun S b xs w hS hb => ih (by omega) S b xs w hS hb)
          · rename_i h3; exact refRead_other (d + 1) b xs w hb t i r hs h1 h2 h3
/-- What Take answers. -/
def RetT (S : Nat → Prop) (w : World) (r : Option (TV × List UInt8)) (e : Ending) (w' : World) : Prop :=
  Below w.heap.size w w' ∧ match r with
  | none => e = .returned (.tuple #[.agg #[.int .i64 0, .int .u64 0, .slice none 0 0, .slice none 0 0], .slice none 0 0, .int .i64 3])
  | some (v, r) => ∃ x ar cr, e = .returned (.tuple #[x, .slice ar r.length cr, .int .i64 0]) ∧ TVv S w' v x
set_option maxRecDepth 100000 in
set_option maxHeartbeats 2000000 in
theorem refTake_ok {S : Nat → Prop} (b : Value) (xs : List UInt8) (w : World) (hSB : SB S w) (hb : Bs S w b xs) : Calls Try.prog 53 #[b] w (RetT S w (readF 8 xs)) := by
  have hSB2 : SB (fun k => S k ∨ k = w.heap.size) (w.alloc (.cells #[.int .i64 0, .int .u64 0, .slice none 0 0, .slice none 0 0] 84 (0, 0))) := fun k hk => by
    rcases hk with hk | rfl
    · have := hSB k hk; simp; omega
    · simp
  have hIH := refRead_ok 8 (by omega) (fun k => S k ∨ k = w.heap.size) b xs _ hSB2 (hb.shift ((Fr.refl (fun _ => False) w).alloc _) (fun _ _ h => h.elim) (fun k hk hs => hs.resolve_right (by omega)))
  clear hSB2
  cases hrd : readF 8 xs with
  | none =>
    rw [hrd] at hIH
    have HC := hid hIH
    clear hIH hb hSB hrd
    go_enter Try.func53, Try.ntmps53
    go_wp2_with (go_at_call 61; refine HC.out.mono ?_; rintro e w2 ⟨hb2, rfl⟩; have hsz2 : w.heap.size < w2.heap.size := (by have := hb2.size; simp at this; omega); have HX := hid ((heap_alloc_old w2 (.cells #[.int .i64 0, .int .u64 0, .slice none 0 0, .slice none 0 0] 84 (0, 0)) (by omega)).trans ((hb2.block _ (by simp)).trans (heap_alloc_new w _))); have s0 := cell_of_heap HX.out 0; have s1 := cell_of_heap HX.out 1; have s2 := cell_of_heap HX.out 2; have s3 := cell_of_heap HX.out 3; have x0 := frozen_of_row _ _ 0 _ _ HX.out; have x1 := frozen_of_row _ _ 1 _ _ HX.out; have x2 := frozen_of_row _ _ 2 _ _ HX.out; have x3 := frozen_of_row _ _ 3 _ _ HX.out; have HZ := hid hsz2; clear hsz2)
    have hsz2 := HZ.out
    have hbx := box4 (.int .i64 0) (.int .u64 0) (.slice none 0 0) (.slice none 0 0) HX.out
    have hB : Below w.heap.size w w2 := ((Below.refl w.heap.size w).alloc (Nat.le_refl _) _).trans (hb2.mono (by simp))
    exact bodyPost_ret (results_ctt rfl _ _ w.heap.size _ _ _ _ rfl hbx.1 Try.underlying84 rfl (by kernel_rfl)) rfl ⟨Below.fr (hB.alloc (by omega) _) hbx.2 (fun i hi e => by omega), rfl⟩
  | some p =>
    obtain ⟨v, r'⟩ := p
    rw [hrd] at hIH
    have hlt := readF_lt hrd
    have HC := hid hIH
    obtain ⟨ab0, cb0, rfl, ⟨hlc, hlim, hcm⟩, _, h4⟩ := hb
    unfold maxLen at hcm
    obtain ⟨blk, off, rfl, hblk, _, _⟩ := h4.resolve_left (fun h => by rw [h] at hlt; simp at hlt)
    clear hIH hrd h4
    have mixed : Try.prog.follows .mixedOrders = true := by kernel_rfl
    go_enter Try.func53, Try.ntmps53
    go_upto_region 4 with (go_at_call 61; refine HC.out.mono ?_; rintro e w2 ⟨hb2, x, kk, rfl, hkl, ⟨x0, x1, x2, x3, rfl, hv2⟩⟩; obtain ⟨hvn, vb, vl, kv, hce, hbv, hrv, _⟩ := hv2.cells; obtain ⟨ab, cb, rfl, _⟩ := hbv; obtain ⟨_, al2, cl2, rfl, _⟩ := hrv; simp only [List.cons.injEq, and_true] at hce; obtain ⟨rfl, rfl, rfl, rfl⟩ := hce; have hsz2 : w.heap.size < w2.heap.size := (by have := hb2.size; simp at this; omega); have hk3 : 3 ≤ kk := (by omega); have hkz : ((kk : Int) == 0) = false := (by simp only [beq_eq_false_iff_ne, ne_eq]; omega); have HX := hid ((heap_alloc_old w2 (.cells #[.int .i64 v.tag, .int .u64 (v.num : Int), .slice ab v.byt.length cb, .slice al2 v.lst.length cl2] 84 (0, 0)) (by omega)).trans ((hb2.block _ (by simp)).trans (heap_alloc_new w _))); have HZ := hid hsz2; clear hsz2)
    have hsz2 := HZ.out
    have hxX := heap_alloc_new w2 (.cells #[.int .i64 v.tag, .int .u64 (v.num : Int), .slice ab v.byt.length cb, .slice al2 v.lst.length cl2] 84 (0, 0))
    have hv3 := TVr.fr ((Fr.refl (fun _ => False) w2).alloc (.cells #[.int .i64 v.tag, .int .u64 (v.num : Int), .slice ab v.byt.length cb, .slice al2 v.lst.length cl2] 84 (0, 0))) (fun _ _ h => h.elim) _ _ hv2
    have hB3 : Below w.heap.size w (w2.alloc (.cells #[.int .i64 v.tag, .int .u64 (v.num : Int), .slice ab v.byt.length cb, .slice al2 v.lst.length cl2] 84 (0, 0))) := (((Below.refl w.heap.size w).alloc (Nat.le_refl _) _).trans (hb2.mono (by simp))).alloc (by omega) _
    generalize w2.alloc (.cells #[.int .i64 v.tag, .int .u64 (v.num : Int), .slice ab v.byt.length cb, .slice al2 v.lst.length cl2] 84 (0, 0)) = w3 at *
    have hX0 : w3.drew.cell? ⟨w2.heap.size, 0, none⟩ = _ := cell_of_heap (w := w3.drew) hxX 0
    have hX1 : w3.drew.cell? ⟨w2.heap.size, 1, none⟩ = _ := cell_of_heap (w := w3.drew) hxX 1
    have hX2 : w3.drew.cell? ⟨w2.heap.size, 2, none⟩ = _ := cell_of_heap (w := w3.drew) hxX 2
    have hX3 : w3.drew.cell? ⟨w2.heap.size, 3, none⟩ = _ := cell_of_heap (w := w3.drew) hxX 3
    simp at hX0 hX1 hX2 hX3
    have s0 := cell_of_heap HX.out 0
    have s1 := cell_of_heap HX.out 1
    have s2 := cell_of_heap HX.out 2
    have s3 := cell_of_heap HX.out 3
    have x0 := frozen_of_row _ _ 0 _ _ HX.out
    have x1 := frozen_of_row _ _ 1 _ _ HX.out
    have x2 := frozen_of_row _ _ 2 _ _ HX.out
    have x3 := frozen_of_row _ _ 3 _ _ HX.out
    have q1 : (0 : Int) ≤ (kk : Int) := by omega
    have q2 : (kk : Int) ≤ (xs.length : Int) := by omega
    have q3 : (kk : Int) ≤ (cb0 : Int) := by omega
    have HV3 := hid hv3
    have HB3 := hid hB3
    have HXX := hid hxX
    have HKL := hid hkl
    clear hv3 hB3 hxX hkl hv2 hb2
    go_region_law_o (fail)
    all_goals go_wp2
    all_goals
      have hlen : xs.length - kk = r'.length := by have := HKL.out; omega
      have hbx := box4 (.int .i64 v.tag) (.int .u64 (v.num : Int)) (.slice ab v.byt.length cb) (.slice al2 v.lst.length cl2) (show w3.drew.heap[w.heap.size]? = _ from HX.out)
      refine bodyPost_ret (results_ctt rfl _ _ w.heap.size _ _ _ _ rfl hbx.1 Try.underlying84 rfl (by kernel_rfl)) rfl ⟨Below.fr (show Below w.heap.size w w3.drew from below_dN HB3.out 1) hbx.2 (fun i hi e => by omega), .agg #[.int .i64 v.tag, .int .u64 (v.num : Int), .slice ab v.byt.length cb, .slice al2 v.lst.length cl2], _, _, by rw [← hlen]; rfl, ⟨_, _, _, _, rfl, TVr.mono (fun k _ hs => .inl hs) _ _ (TVr.fr hbx.2 (fun k _ e => .inr e) _ _ (TVr.fr ((Fr.refl (fun _ => False) w3).drew) (fun _ _ h => h.elim) _ _ HV3.out))⟩⟩
set_option maxRecDepth 100000 in
set_option maxHeartbeats 2000000 in
theorem refGet_ok {S : Nat → Prop} (b : Value) (xs : List UInt8) (w : World) (hSB : SB S w) (hb : Bs S w b xs) : Calls Try.prog 30 #[b] w (RetG S w (getF xs)) := by
  have hSB2 : SB (fun k => S k ∨ k = w.heap.size) (w.alloc (.cells #[.int .i64 0, .int .u64 0, .slice none 0 0, .slice none 0 0] 84 (0, 0))) := fun k hk => by
    rcases hk with hk | rfl
    · have := hSB k hk; simp; omega
    · simp
  have hIH := refTake_ok b xs _ hSB2 (hb.shift ((Fr.refl (fun _ => False) w).alloc _) (fun _ _ h => h.elim) (fun k hk hs => hs.resolve_right (by omega)))
  clear hSB2 hb hSB
  cases hrd : readF 8 xs with
  | none =>
    rw [hrd] at hIH
    have HC := hid hIH
    rw [show getF xs = (TV.zero, 3) by unfold getF; rw [hrd]]
    clear hIH hrd
    go_enter Try.func30, Try.ntmps30
    go_wp2_with (go_at_call 53; refine HC.out.mono ?_; rintro e w2 ⟨hb2, rfl⟩; have hsz2 : w.heap.size < w2.heap.size := (by have := hb2.size; simp at this; omega); have HX := hid ((heap_alloc_old w2 (.cells #[.int .i64 0, .int .u64 0, .slice none 0 0, .slice none 0 0] 84 (0, 0)) (by omega)).trans ((hb2.block _ (by simp)).trans (heap_alloc_new w _))); have s0 := cell_of_heap HX.out 0; have s1 := cell_of_heap HX.out 1; have s2 := cell_of_heap HX.out 2; have s3 := cell_of_heap HX.out 3; have x0 := frozen_of_row _ _ 0 _ _ HX.out; have x1 := frozen_of_row _ _ 1 _ _ HX.out; have x2 := frozen_of_row _ _ 2 _ _ HX.out; have x3 := frozen_of_row _ _ 3 _ _ HX.out; have HZ := hid hsz2; clear hsz2)
    have hsz2 := HZ.out
    have hbx := box4 (.int .i64 0) (.int .u64 0) (.slice none 0 0) (.slice none 0 0) HX.out
    have hB : Below w.heap.size w w2 := ((Below.refl w.heap.size w).alloc (Nat.le_refl _) _).trans (hb2.mono (by simp))
    exact bodyPost_ret (results_ct rfl _ _ w.heap.size _ _ _ _ rfl hbx.1 Try.underlying84 rfl (by kernel_rfl)) rfl ⟨Below.fr (hB.alloc (by omega) _) hbx.2 (fun i hi e => by omega), _, rfl, TVv.zero _ _⟩
  | some p =>
    obtain ⟨v, r'⟩ := p
    rw [hrd] at hIH
    have HC := hid hIH
    clear hIH
    cases r' with
    | nil =>
      rw [show getF xs = (v, 0) by unfold getF; rw [hrd]]
      clear hrd
      go_enter Try.func30, Try.ntmps30
      go_upto_region 2 with (go_at_call 53; refine HC.out.mono ?_; rintro e w2 ⟨hb2, x, ar9, cr9, rfl, ⟨x0, x1, x2, x3, rfl, hv2⟩⟩; obtain ⟨hvn, vb, vl, kv, hce, hbv, hrv, _⟩ := hv2.cells; obtain ⟨ab, cb, rfl, _⟩ := hbv; obtain ⟨_, al2, cl2, rfl, _⟩ := hrv; simp only [List.cons.injEq, and_true] at hce; obtain ⟨rfl, rfl, rfl, rfl⟩ := hce; have hsz2 : w.heap.size < w2.heap.size := (by have := hb2.size; simp at this; omega); have HX := hid ((heap_alloc_old w2 (.cells #[.int .i64 v.tag, .int .u64 (v.num : Int), .slice ab v.byt.length cb, .slice al2 v.lst.length cl2] 84 (0, 0)) (by omega)).trans ((hb2.block _ (by simp)).trans (heap_alloc_new w _))); have HZ := hid hsz2; clear hsz2)
      have hsz2 := HZ.out
      have hxX := heap_alloc_new w2 (.cells #[.int .i64 v.tag, .int .u64 (v.num : Int), .slice ab v.byt.length cb, .slice al2 v.lst.length cl2] 84 (0, 0))
      have hv3 := TVr.fr ((Fr.refl (fun _ => False) w2).alloc (.cells #[.int .i64 v.tag, .int .u64 (v.num : Int), .slice ab v.byt.length cb, .slice al2 v.lst.length cl2] 84 (0, 0))) (fun _ _ h => h.elim) _ _ hv2
      have hB3 : Below w.heap.size w (w2.alloc (.cells #[.int .i64 v.tag, .int .u64 (v.num : Int), .slice ab v.byt.length cb, .slice al2 v.lst.length cl2] 84 (0, 0))) := (((Below.refl w.heap.size w).alloc (Nat.le_refl _) _).trans (hb2.mono (by simp))).alloc (by omega) _
      generalize w2.alloc (.cells #[.int .i64 v.tag, .int .u64 (v.num : Int), .slice ab v.byt.length cb, .slice al2 v.lst.length cl2] 84 (0, 0)) = w3 at *
      have hX0 := cell_of_heap hxX 0
      have hX1 := cell_of_heap hxX 1
      have hX2 := cell_of_heap hxX 2
      have hX3 := cell_of_heap hxX 3
      simp at hX0 hX1 hX2 hX3
      have s0 := cell_of_heap HX.out 0
      have s1 := cell_of_heap HX.out 1
      have s2 := cell_of_heap HX.out 2
      have s3 := cell_of_heap HX.out 3
      have x0 := frozen_of_row _ _ 0 _ _ HX.out
      have x1 := frozen_of_row _ _ 1 _ _ HX.out
      have x2 := frozen_of_row _ _ 2 _ _ HX.out
      have x3 := frozen_of_row _ _ 3 _ _ HX.out
      have HV3 := hid hv3
      have HB3 := hid hB3
      clear hv3 hB3 hxX hv2 hb2
      go_wp2
      have hbx := box4 (.int .i64 v.tag) (.int .u64 (v.num : Int)) (.slice ab v.byt.length cb) (.slice al2 v.lst.length cl2) HX.out
      have hbz := box4 (.int .i64 0) (.int .u64 0) (.slice none 0 0) (.slice none 0 0) HX.out
      refine bodyPost_ret (results_ct rfl _ _ w.heap.size _ _ _ _ rfl hbx.1 Try.underlying84 rfl (by kernel_rfl)) rfl ⟨Below.fr HB3.out hbx.2 (fun i hi e => by omega), .agg #[.int .i64 v.tag, .int .u64 (v.num : Int), .slice ab v.byt.length cb, .slice al2 v.lst.length cl2], rfl, ⟨_, _, _, _, rfl, TVr.mono (fun k _ hs => .inl hs) _ _ (TVr.fr hbx.2 (fun k _ e => .inr e) _ _ HV3.out)⟩⟩
    | cons c0 r0 =>
      rw [show getF xs = (TV.zero, 3) by unfold getF; rw [hrd]]
      have hpos : (0 : Int) < ((c0 :: r0 : List UInt8).length : Int) := by simp only [List.length_cons]; omega
      clear hrd
      generalize (c0 :: r0 : List UInt8) = r' at *
      go_enter Try.func30, Try.ntmps30
      go_upto_region 2 with (go_at_call 53; refine HC.out.mono ?_; rintro e w2 ⟨hb2, x, ar9, cr9, rfl, ⟨x0, x1, x2, x3, rfl, hv2⟩⟩; obtain ⟨hvn, vb, vl, kv, hce, hbv, hrv, _⟩ := hv2.cells; obtain ⟨ab, cb, rfl, _⟩ := hbv; obtain ⟨_, al2, cl2, rfl, _⟩ := hrv; simp only [List.cons.injEq, and_true] at hce; obtain ⟨rfl, rfl, rfl, rfl⟩ := hce; have hsz2 : w.heap.size < w2.heap.size := (by have := hb2.size; simp at this; omega); have HX := hid ((heap_alloc_old w2 (.cells #[.int .i64 v.tag, .int .u64 (v.num : Int), .slice ab v.byt.length cb, .slice al2 v.lst.length cl2] 84 (0, 0)) (by omega)).trans ((hb2.block _ (by simp)).trans (heap_alloc_new w _))); have HZ := hid hsz2; clear hsz2)
      have hsz2 := HZ.out
      have hxX := heap_alloc_new w2 (.cells #[.int .i64 v.tag, .int .u64 (v.num : Int), .slice ab v.byt.length cb, .slice al2 v.lst.length cl2] 84 (0, 0))
      have hv3 := TVr.fr ((Fr.refl (fun _ => False) w2).alloc (.cells #[.int .i64 v.tag, .int .u64 (v.num : Int), .slice ab v.byt.length cb, .slice al2 v.lst.length cl2] 84 (0, 0))) (fun _ _ h => h.elim) _ _ hv2
      have hB3 : Below w.heap.size w (w2.alloc (.cells #[.int .i64 v.tag, .int .u64 (v.num : Int), .slice ab v.byt.length cb, .slice al2 v.lst.length cl2] 84 (0, 0))) := (((Below.refl w.heap.size w).alloc (Nat.le_refl _) _).trans (hb2.mono (by simp))).alloc (by omega) _
      generalize w2.alloc (.cells #[.int .i64 v.tag, .int .u64 (v.num : Int), .slice ab v.byt.length cb, .slice al2 v.lst.length cl2] 84 (0, 0)) = w3 at *
      have hX0 := cell_of_heap hxX 0
      have hX1 := cell_of_heap hxX 1
      have hX2 := cell_of_heap hxX 2
      have hX3 := cell_of_heap hxX 3
      simp at hX0 hX1 hX2 hX3
      have s0 := cell_of_heap HX.out 0
      have s1 := cell_of_heap HX.out 1
      have s2 := cell_of_heap HX.out 2
      have s3 := cell_of_heap HX.out 3
      have x0 := frozen_of_row _ _ 0 _ _ HX.out
      have x1 := frozen_of_row _ _ 1 _ _ HX.out
      have x2 := frozen_of_row _ _ 2 _ _ HX.out
      have x3 := frozen_of_row _ _ 3 _ _ HX.out
      have HV3 := hid hv3
      have HB3 := hid hB3
      clear hv3 hB3 hxX hv2 hb2
      go_wp2
      have hbx := box4 (.int .i64 v.tag) (.int .u64 (v.num : Int)) (.slice ab v.byt.length cb) (.slice al2 v.lst.length cl2) HX.out
      have hbz := box4 (.int .i64 0) (.int .u64 0) (.slice none 0 0) (.slice none 0 0) HX.out
      exact bodyPost_ret (results_ct rfl _ _ w.heap.size _ _ _ _ rfl hbz.1 Try.underlying84 rfl (by kernel_rfl)) rfl ⟨Below.fr HB3.out hbz.2 (fun i hi e => by omega), _, rfl, TVv.zero _ _⟩
end Go.Proofs.Ytpomfegcifpfkaa
