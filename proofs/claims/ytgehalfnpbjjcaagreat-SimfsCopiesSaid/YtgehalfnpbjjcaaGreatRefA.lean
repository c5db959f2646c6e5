/- hayloftref06: find, Less. -/
import Derived.Test.YtgehalfnpbjjcaaGreatRefPure
import Derived.Test.YtgehalfnpbjjcaaGreatR06A
import Derived.Test.YtgehalfnpbjjcaaGreatRegHeld
namespace Go.Proofs.YtgehalfnpbjjcaaGreat
open Go Go.RowKit Go.Sort
theorem str_eq (a b : ByteArray) : (a.toList == b.toList) = decide (a = b) := by
  rw [← beq_toListBytes, Bool.eq_iff_iff, MapKept.bytes_beq, decide_eq_true_eq]
theorem etEntD : ET Tryz.prog 39 105 2 24 (.agg #[.string ByteArray.empty, .int .i64 0]) := ⟨Tryz.underlying39, by kernel_rfl, by kernel_rfl, by decide, by decide⟩
set_option maxRecDepth 100000 in
theorem r06Find_ok (w : World) {S : Nat → Prop} (l : RDir) {a : Option Addr} {c : Nat} (hv : Row S w (.slice a l.length c) l.length 2 (l.flatMap rentC)) (n : ByteArray) (hl : l.length ≤ 1000000) :
    Calls Tryz.prog 58 #[.slice a l.length c, .string n] w fun e w' => e = .returned (.int .i64 (rfind l n)) ∧ w' = w := by
  have HV := hid hv
  clear hv
  go_enter Tryz.func58, Tryz.ntmps58
  go_wp2
  go_loopg [5] l.length (fun kx s5 wr => ∃ i : Nat, s5 = .int .i64 i ∧ i ≤ l.length ∧ l.length - i ≤ kx ∧ Hid (rfind (l.drop i) n = rfind l n) ∧ wr = w)
  case atStart => exact ⟨0, rfl, Nat.zero_le _, Nat.le_refl _, hid rfl, rfl⟩
  case round =>
    obtain ⟨i, rfl, hi, hk, HR, rfl⟩ := hrel
    by_cases hlt : i < l.length
    · have hlt' : (i : Int) < (l.length : Int) := by omega
      obtain ⟨p, hp⟩ : ∃ p, l[i]? = some p := ⟨_, List.getElem?_eq_getElem hlt⟩
      obtain ⟨b, off, rfl, hb, _, hc1, hc2, hcell⟩ := HV.out.elem rentC_len (by decide) hp
      have k0 : wr.cell? ⟨b, off + i * 2, none⟩ = some (.string p.1) := hcell 0 _ rfl
      have k1 : wr.cell? ⟨b, off + i * 2 + 1, none⟩ = some (.int .i64 p.2) := hcell 1 _ rfl
      have HD := hid (rfind_drop (n := n) hp)
      clear hcell hp
      by_cases hpn : p.1 = n
      · have ht : (p.1.toList == n.toList) = true := by rw [str_eq, decide_eq_true hpn]
        have HP := hid hpn
        clear hpn
        go_wp2
        go_ret
        refine ⟨?_, rfl⟩
        rw [← HR.out, HD.out, if_pos HP.out]
        rfl
      · have ht : (p.1.toList == n.toList) = false := by rw [str_eq, decide_eq_false hpn]
        have HP := hid hpn
        clear hpn
        go_wp2
        go_roundg (l.length - (i + 1))
        case measure => omega
        case rel => exact ⟨i + 1, by go_num, hlt, Nat.le_refl _, hid (by rw [← HR.out, HD.out, if_neg HP.out]), rfl⟩
    · obtain rfl : i = l.length := by omega
      go_wp2
      go_ret
      have h := HR.out
      rw [List.drop_length, rfind_nil] at h
      exact ⟨by rw [← h]; rfl, rfl⟩
theorem byte_get (s : ByteArray) (i : Nat) (_h : i < s.size) (h' : i < s.data.toList.length) : s.data.toList[i] = s[i] := by
  show s.data.toList[i] = s.data[i]
  rw [Array.getElem_toList]
set_option maxRecDepth 100000 in
theorem r06Less_ok (w : World) (a b : ByteArray) (ha : a.size ≤ 1000000) : Calls Tryz.prog 85 #[.string a, .string b] w fun e w' => e = .returned (.bool (bless a b)) ∧ Below w.heap.size w w' := by
  have mixed : Tryz.prog.follows .mixedOrders = true := by kernel_rfl
  have la : a.data.toList.length = a.size := by simp
  have lb : b.data.toList.length = b.size := by simp
  have LA := hid la
  have LB := hid lb
  clear la lb
  go_enter Tryz.func85, Tryz.ntmps85
  go_wp2
  go_loopg [5] a.size (fun kx s5 wr => ∃ i : Nat, s5 = .int .i64 i ∧ i ≤ a.size ∧ i ≤ b.size ∧ a.size - i ≤ kx ∧ Hid ((a.data.toList.drop i < b.data.toList.drop i) ↔ a.data.toList < b.data.toList) ∧ Hid (Below w.heap.size w wr))
  case atStart => exact ⟨0, rfl, Nat.zero_le _, Nat.zero_le _, Nat.le_refl _, hid (Iff.rfl), hid (Below.refl _ _)⟩
  case round =>
    obtain ⟨i, rfl, hia, hib, hk, HR, HB⟩ := hrel
    by_cases h1 : i < a.size
    · have h1' : (i : Int) < (a.size : Int) := by omega
      by_cases h2 : i < b.size
      · have h2' : (i : Int) < (b.size : Int) := by omega
        have hd := bless_drop (a := a.data.toList) (b := b.data.toList) (i := i) (by rw [LA.out]; exact h1) (by rw [LB.out]; exact h2)
        rw [byte_get a i h1, byte_get b i h2] at hd
        have HD := hid hd
        clear hd
        by_cases hne : a[i].toNat = b[i].toNat
        · have ht : ((a[i].toNat : Int) != (b[i].toNat : Int)) = false := by simp [hne]
          have he : a[i] = b[i] := UInt8.toNat_inj.1 hne
          have HE := hid he
          clear hne he
          go_wp2_with fail
          go_region_law_o (fail)
          all_goals
            go_wp2_with fail
            go_roundg (a.size - (i + 1))
            case measure => omega
            case rel =>
              refine ⟨i + 1, by go_num, h1, h2, Nat.le_refl _, hid ?_, hid (HB.out.drew)⟩
              rw [← HR.out, HD.out, HE.out]
              have hirr : ¬ b[i] < b[i] := UInt8.lt_irrefl _
              simp [hirr]
        · have ht : ((a[i].toNat : Int) != (b[i].toNat : Int)) = true := by simp; omega
          have HE := hid hne
          clear hne
          go_wp2_with fail
          go_region_law_o (fail)
          all_goals
            go_wp2_with fail
            go_region_law_o (fail)
            all_goals
              go_wp2
              go_ret
              refine ⟨?_, HB.out.drew.drew⟩
              have h8 : bless a b = decide (a[i].toNat < b[i].toNat) := by
                unfold bless
                rw [decide_eq_decide, ← HR.out, HD.out]
                have h7 : a[i] ≠ b[i] := fun h => HE.out (by rw [h])
                simp only [h7, false_and, or_false]
                exact UInt8.lt_iff_toNat_lt
              rw [h8]
              rfl
      · have h2' : ¬ (i : Int) < (b.size : Int) := by omega
        go_wp2
        go_ret
        refine ⟨?_, HB.out⟩
        have h := bless_end (a := a.data.toList) (b := b.data.toList) (i := i) (by rw [LA.out]; exact hia) (by rw [LB.out]; exact hib) (by rw [LA.out, LB.out]; omega)
        rw [LA.out, LB.out] at h
        unfold bless
        rw [show decide (a.data.toList < b.data.toList) = decide (a.size < b.size) from by rw [decide_eq_decide, ← HR.out, h]]
        rfl
    · have h1' : ¬ (i : Int) < (a.size : Int) := by omega
      go_wp2
      go_ret
      refine ⟨?_, HB.out⟩
      have h := bless_end (a := a.data.toList) (b := b.data.toList) (i := i) (by rw [LA.out]; exact hia) (by rw [LB.out]; exact hib) (by rw [LA.out, LB.out]; omega)
      rw [LA.out, LB.out] at h
      unfold bless
      rw [show decide (a.data.toList < b.data.toList) = decide (a.size < b.size) from by rw [decide_eq_decide, ← HR.out, h]]
      rfl
end Go.Proofs.YtgehalfnpbjjcaaGreat
