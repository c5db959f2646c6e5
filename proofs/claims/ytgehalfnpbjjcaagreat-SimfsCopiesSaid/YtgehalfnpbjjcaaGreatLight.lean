/- hayloftlaw06: Light. -/
import Derived.Test.YtgehalfnpbjjcaaGreatOpenO
import Derived.Test.YtgehalfnpbjjcaaGreatUpKit
namespace Go.Proofs.YtgehalfnpbjjcaaGreat
open Go Go.RowKit Go.Sort
theorem meas_ltL {n i k : Nat} (h : n - i ≤ k) (hi : i < n) : n - (i + 1) < k := by omega
structure OpL (o : OpV) : Prop where
  a : o.name.size ≤ 60
  b : o.to.size ≤ 60
  c : o.bn ≤ 200
  d : o.cn ≤ 60
def LightR (l : List OpV) (w : World) (e : Ending) (w' : World) : Prop := ∃ b : Bool, (b = true → ∀ o ∈ l, OpL o) ∧ e = .returned (.bool b) ∧ w' = w
set_option maxRecDepth 100000 in
theorem light_long (w : World) (a : Option Addr) (n c : Nat) (lim : Nat) (h : lim < n) : Calls Tryz.prog 4 #[.slice a n c, .int .i64 (lim : Int)] w fun e w' => e = .returned (.bool false) ∧ w' = w := by
  have g1 : (lim : Int) < (n : Int) := by omega
  go_enter Tryz.func4, Tryz.ntmps4
  go_wp2
  go_ret
  exact ⟨rfl, rfl⟩
set_option maxRecDepth 100000 in
set_option maxHeartbeats 1000000 in
theorem light_short (w : World) (a : Option Addr) (c : Nat) (l : List OpV) (hr : Row (fun _ => False) w (.slice a l.length c) l.length 7 (l.flatMap opC)) (lim : Nat) (h : l.length ≤ lim) (hlim : lim ≤ 1000) :
    Calls Tryz.prog 4 #[.slice a l.length c, .int .i64 (lim : Int)] w fun e w' => LightR l w e w' := by
  have g1 : ¬ (lim : Int) < (l.length : Int) := by omega
  have HV := hid hr
  clear hr
  go_enter Tryz.func4, Tryz.ntmps4
  go_wp2
  go_loopg [5] l.length (fun kx s5 wr => ∃ i : Nat, s5 = .int .i64 i ∧ i ≤ l.length ∧ l.length - i ≤ kx ∧ Hid (∀ o ∈ l.take i, OpL o) ∧ wr = w)
  case atStart => exact ⟨0, rfl, Nat.zero_le _, Nat.le_refl _, hid (by simp), rfl⟩
  case round =>
    obtain ⟨i, rfl, hi, hk, HR, rfl⟩ := hrel
    by_cases hlt : i < l.length
    · have hlt' : (i : Int) < (l.length : Int) := by omega
      obtain ⟨o, ho⟩ : ∃ o, l[i]? = some o := ⟨_, List.getElem?_eq_getElem hlt⟩
      obtain ⟨b, off, rfl, hb, _, hc1, hc2, hcell⟩ := HV.out.elem opC_len (by decide) ho
      have k1 : wr.cell? ⟨b, off + i * 7 + 1, none⟩ = some (.string o.name) := hcell 1 _ rfl
      have k2 : wr.cell? ⟨b, off + i * 7 + 2, none⟩ = some (.string o.to) := hcell 2 _ rfl
      have k3 : wr.cell? ⟨b, off + i * 7 + 3, none⟩ = some (.slice o.ba o.bn o.bc) := hcell 3 _ rfl
      have k6 : wr.cell? ⟨b, off + i * 7 + 6, none⟩ = some (.slice o.ca o.cn o.cc) := hcell 6 _ rfl
      have HO := hid ho
      clear hcell ho
      by_cases t1 : (60 : Int) < (o.name.size : Int)
      · go_wp2
        go_ret
        exact ⟨false, (fun h => by cases h), rfl, rfl⟩
      by_cases t2 : (60 : Int) < (o.to.size : Int)
      · go_wp2
        go_ret
        exact ⟨false, (fun h => by cases h), rfl, rfl⟩
      by_cases t3 : (200 : Int) < (o.bn : Int)
      · go_wp2
        go_ret
        exact ⟨false, (fun h => by cases h), rfl, rfl⟩
      by_cases t4 : (60 : Int) < (o.cn : Int)
      · go_wp2
        go_ret
        exact ⟨false, (fun h => by cases h), rfl, rfl⟩
      have HOL := hid (show OpL o from ⟨by omega, by omega, by omega, by omega⟩)
      go_wp2
      go_roundg (l.length - (i + 1))
      case measure => exact meas_ltL hk hlt
      case rel =>
        refine ⟨i + 1, by go_num, hlt, Nat.le_refl _, hid (fun p hp => ?_), rfl⟩
        rw [List.take_add_one, HO.out, Option.toList_some, List.mem_append, List.mem_singleton] at hp
        rcases hp with hp | rfl
        · exact HR.out p hp
        · exact HOL.out
    · obtain rfl : i = l.length := by omega
      go_wp2
      go_ret
      exact ⟨true, fun _ o ho => HR.out o (by rw [List.take_length]; exact ho), rfl, rfl⟩
end Go.Proofs.YtgehalfnpbjjcaaGreat
