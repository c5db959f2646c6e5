/- hayloftref06's Name. -/
import Derived.Test.YtgehalfnpbjjcaaGreatSimA
namespace Go.Proofs.YtgehalfnpbjjcaaGreat
open Go Go.RowKit Go.Sort
theorem all_take_get {s : ByteArray} {i : Nat} (h : i < s.size) (ha : (s.data.toList.take i).all byteR = true) : (s.data.toList.take (i + 1)).all byteR = byteR (s.get! i) := by
  rw [List.take_add_one, get_data s h, List.all_append, ha]
  simp
theorem all_false {s : ByteArray} {i : Nat} (h : i < s.size) (hb : byteR (s.get! i) = false) : s.data.toList.all byteR = false := by
  rw [List.all_eq_false]
  exact ⟨s.get! i, List.mem_of_getElem? (get_data s h), by rw [hb]; simp⟩
set_option maxRecDepth 100000 in
theorem r06Name_ok (s : ByteArray) (w : World) : Calls Tryz.prog 75 #[.string s] w fun e w' => e = .returned (.bool (nameR s)) ∧ w' = w := by
  by_cases h1 : 1 ≤ s.size
  · by_cases h2 : s.size ≤ 40
    · rw [nameR_of h1 h2]
      have g1 : ¬ (s.size : Int) < 1 := by omega
      have g2 : ¬ (40 : Int) < (s.size : Int) := by omega
      obtain ⟨R, hR⟩ : ∃ R, R = s.data.toList.all byteR := ⟨_, rfl⟩
      rw [← hR]
      have HR := hid hR
      clear hR
      go_enter Tryz.func75, Tryz.ntmps75
      go_wp2
      go_loopg [3] s.size (fun kx s3 wr => ∃ i : Nat, s3 = .int .i64 i ∧ i ≤ s.size ∧ s.size - i ≤ kx ∧ Hid ((s.data.toList.take i).all byteR = true) ∧ wr = w)
      case atStart => exact ⟨0, rfl, Nat.zero_le _, Nat.le_refl _, hid rfl, rfl⟩
      case round =>
        obtain ⟨i, rfl, hi, hk, HA, rfl⟩ := hrel
        by_cases hlt : i < s.size
        · have hlt' : (i : Int) < (s.size : Int) := by omega
          have HT := hid (all_take_get hlt HA.out)
          have HFL := hid (fun hb => all_false (s := s) hlt hb)
          have hu : s[i] = s.get! i := by
            have h' : i < s.data.size := hlt
            unfold ByteArray.get!
            exact (getElem!_pos s.data i h').symm
          by_cases t1 : (s[i].toNat : Int) < 33
          · have hbf := HFL.out (by rw [← hu]; unfold byteR; exact decide_eq_false (by omega))
            have HBF := hid hbf
            clear hbf hu
            go_wp2
            go_ret
            exact ⟨by rw [HR.out, HBF.out]; rfl, rfl⟩
          · by_cases t2 : (126 : Int) < (s[i].toNat : Int)
            · have hbf := HFL.out (by rw [← hu]; unfold byteR; exact decide_eq_false (by omega))
              have HBF := hid hbf
              clear hbf hu
              go_wp2
              go_ret
              exact ⟨by rw [HR.out, HBF.out]; rfl, rfl⟩
            · by_cases t3 : s[i].toNat = 47
              · have t4 : ((s[i].toNat : Int) == 47) = true := by simp; omega
                have hbf := HFL.out (by rw [← hu]; unfold byteR; exact decide_eq_false (by omega))
                have HBF := hid hbf
                clear hbf hu
                go_wp2
                go_ret
                exact ⟨by rw [HR.out, HBF.out]; rfl, rfl⟩
              · have t4 : ((s[i].toNat : Int) == 47) = false := by simp; omega
                have hbt := HT.out
                rw [← hu] at hbt
                rw [show byteR s[i] = true from decide_eq_true (by omega)] at hbt
                have HBT := hid hbt
                clear hbt hu t3
                go_wp2
                go_roundg (s.size - (i + 1))
                case measure => omega
                case rel => exact ⟨i + 1, by go_num, hlt, Nat.le_refl _, HBT, rfl⟩
        · obtain rfl : i = s.size := by omega
          have hall : s.data.toList.all byteR = true := by
            have := HA.out
            rwa [List.take_of_length_le (i := s.size) (show s.data.toList.length ≤ s.size from by rw [Array.length_toList]; exact Nat.le_refl _)] at this
          have HALL := hid hall
          clear hall
          go_wp2
          go_ret
          exact ⟨by rw [HR.out, HALL.out]; rfl, rfl⟩
    · have hn : nameR s = false := by unfold nameR; rw [decide_eq_false (by omega)]; rfl
      rw [hn]
      have g1 : ¬ (s.size : Int) < 1 := by omega
      have g2 : (40 : Int) < (s.size : Int) := by omega
      clear hn
      go_enter Tryz.func75, Tryz.ntmps75
      go_wp2
      go_ret
      exact ⟨rfl, rfl⟩
  · have hn : nameR s = false := by unfold nameR; rw [decide_eq_false (by omega)]; rfl
    rw [hn]
    have g1 : (s.size : Int) < 1 := by omega
    clear hn
    go_enter Tryz.func75, Tryz.ntmps75
    go_wp2
    go_ret
    exact ⟨rfl, rfl⟩
end Go.Proofs.YtgehalfnpbjjcaaGreat
