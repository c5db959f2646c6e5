/- Two places are compared. -/
import Derived.Test.YtpomfegcifpfkaaJoinsPure
import Derived.Laws.StructEq
import Derived.Test.YtpomfegcifpfkaaSegRight2
import Derived.OpenShut
import Derived.ChangeArms
import Derived.Deep.Slices
import Derived.WideShapes
namespace Go.Proofs.Ytpomfegcifpfkaa
open Go Go.RowKit
set_option maxRecDepth 1000000 in
theorem eq_where (x y z : Int) (w : World) : (Op.equalIn 10000 48 (.agg #[.int .i64 x, .int .i64 y, .int .i64 z]) (.agg #[.int .i64 x, .int .i64 y, .int .i64 z])).run Try.prog w = .ok true w := by
  have h1 := run_equalIn_agg (P := Try.prog) w 9999 48 #[.int .i64 x, .int .i64 y, .int .i64 z] #[.int .i64 x, .int .i64 y, .int .i64 z] Try.underlying48 (by kernel_rfl)
  rw [h1]
  have hi : ∀ (a b : Int) (w : World), (Op.equalIn 9999 3 (.int .i64 a) (.int .i64 b)).run Try.prog w = .ok (a == b) w := fun a b w => run_equalIn_int w 9998 3 .i64 .i64 a b Try.underlying3
  have hf : (Try.prog.fieldsOf 48).toList = [{ name := "Pack", type := 3, offset := 0, embedded := false, tag := "", pkgPath := "", byteOffset := 0 }, { name := "At", type := 3, offset := 1, embedded := false, tag := "", pkgPath := "", byteOffset := 8 }, { name := "Len", type := 3, offset := 2, embedded := false, tag := "", pkgPath := "", byteOffset := 16 }] := by
    unfold Program.fieldsOf; rw [Try.underlying48]
  have p0 : ∀ w : World, (part 3 #[.int .i64 x, .int .i64 y, .int .i64 z] 0).run Try.prog w = .ok (.int .i64 x) w := fun w => by simp [part, Try.isAgg3]
  have p1 : ∀ w : World, (part 3 #[.int .i64 x, .int .i64 y, .int .i64 z] 1).run Try.prog w = .ok (.int .i64 y) w := fun w => by simp [part, Try.isAgg3]
  have p2 : ∀ w : World, (part 3 #[.int .i64 x, .int .i64 y, .int .i64 z] 2).run Try.prog w = .ok (.int .i64 z) w := fun w => by simp [part, Try.isAgg3]
  rw [hf]
  simp [Op.eqFields, Sem.run_bind, p0, p1, p2, hi, Result.andThen_ok, Sem.run_ite, Sem.run_pure]
end Go.Proofs.Ytpomfegcifpfkaa
/- An argument that is a list of entries, opened. -/
namespace Go.Proofs.Ytpomfegcifpfkaa
open Go Go.RowKit Go.Sort Go.ChangeShapes Go.WideShapes Go.Deep
section
variable {H : Type} {enc : TypeId × Value → H} {w : World} {base : Nat} {spare : Nat → Bool} {held : Bool}
theorem byte_of {fuel : Nat} {cs : List Value} {x : DataW H × List MemPlace} (h : DataW.trod enc Try.prog w base spare held fuel 5 cs = some x) : ∃ b : UInt8, cs = [bcell b] := by
  obtain ⟨n, rfl, _, hw⟩ := DataW.trod_int Try.underlying5 h
  have hx : 0 ≤ n ∧ n ≤ 255 := by simpa [Lit.wf, IntKind.min, IntKind.max, IntKind.signed, IntKind.bits] using hw
  refine ⟨UInt8.ofNat n.toNat, ?_⟩
  have : ((UInt8.ofNat n.toNat).toNat : Int) = n := by rw [UInt8.toNat_ofNat']; omega
  unfold bcell; rw [this]
theorem bytes_of : ∀ (n : Nat) (cs : List Value), cs.length = n → (∀ i, i < n → ∃ b : UInt8, (cs.drop i).take 1 = [bcell b]) → ∃ bs : List UInt8, cs = bcells bs
  | 0, [], _, _ => ⟨[], rfl⟩
  | n + 1, c :: cs, hl, h => by
    obtain ⟨b, hb⟩ := h 0 (by omega)
    obtain ⟨bs, rfl⟩ := bytes_of n cs (by simpa using hl) (fun i hi => by have := h (i + 1) (by omega); simpa using this)
    simp at hb
    subst hb
    exact ⟨b :: bs, rfl⟩
theorem hash_of {fuel : Nat} {cs : List Value} {x : DataW H × List MemPlace} (h : DataW.trod enc Try.prog w base spare held fuel 46 cs = some x) : ∃ n : Nm, cs = bcells n.1 := by
  obtain ⟨xs, m, _, _, hl, hx, hi⟩ := DataW.trod_array Try.underlying46 h
  have hc : Try.prog.cellsOf 46 = 32 := by kernel_rfl
  have hb : Try.prog.cellsOf 5 = 1 := by kernel_rfl
  rw [hc] at hl
  obtain ⟨bs, rfl⟩ := bytes_of 32 cs hl (fun i hlt => by
    have h1 := hi i hlt
    rw [hb, Nat.mul_one, List.getElem?_eq_getElem (by omega)] at h1
    exact byte_of h1)
  exact ⟨⟨bs, by simpa [bcells] using hl⟩, rfl⟩
theorem int_of {fuel : Nat} {cs : List Value} {x : DataW H × List MemPlace} (h : DataW.trod enc Try.prog w base spare held fuel 3 cs = some x) : ∃ n : Int, cs = [.int .i64 n] := by
  obtain ⟨n, rfl, _, _⟩ := DataW.trod_int Try.underlying3 h
  exact ⟨n, rfl⟩
theorem flatE_length : ∀ l : List Ent, (l.flatMap entC).length = l.length * 35
  | [] => rfl
  | a :: l => by rw [List.flatMap_cons, List.length_append, flatE_length l, entC_length, List.length_cons, Nat.add_mul]; omega
set_option maxRecDepth 100000 in
theorem ent_of {fuel : Nat} {cs : List Value} {x : DataW H × List MemPlace} (h : DataW.trod enc Try.prog w base spare held fuel 81 cs = some x) : ∃ e : Ent, cs = entC e := by
  obtain ⟨xs, m, _, _, hl, hx, hi⟩ := DataW.trod_struct Try.underlying81 h
  have hc : Try.prog.cellsOf 81 = 35 := by kernel_rfl
  have hh : Try.prog.cellsOf 46 = 32 := by kernel_rfl
  have hw : Try.prog.cellsOf 79 = 3 := by kernel_rfl
  have hn : Try.prog.cellsOf 3 = 1 := by kernel_rfl
  rw [hc] at hl
  have hx2 : xs.length = 2 := hx
  have h0 : DataW.trod enc Try.prog w base spare held m 46 ((cs.drop 0).take (Try.prog.cellsOf 46)) = xs[0]? := hi 0 _ rfl
  have h1 : DataW.trod enc Try.prog w base spare held m 79 ((cs.drop 32).take (Try.prog.cellsOf 79)) = xs[1]? := hi 1 _ rfl
  rw [hh, List.getElem?_eq_getElem (by omega)] at h0
  rw [hw, List.getElem?_eq_getElem (by omega)] at h1
  obtain ⟨n, hn0⟩ := hash_of h0
  obtain ⟨ys, m2, _, _, hl2, hy, hj⟩ := DataW.trod_struct Try.underlying79 h1
  have hy3 : ys.length = 3 := hy
  have j0 : DataW.trod enc Try.prog w base spare held m2 3 ((((cs.drop 32).take 3).drop 0).take (Try.prog.cellsOf 3)) = ys[0]? := hj 0 _ rfl
  have j1 : DataW.trod enc Try.prog w base spare held m2 3 ((((cs.drop 32).take 3).drop 1).take (Try.prog.cellsOf 3)) = ys[1]? := hj 1 _ rfl
  have j2 : DataW.trod enc Try.prog w base spare held m2 3 ((((cs.drop 32).take 3).drop 2).take (Try.prog.cellsOf 3)) = ys[2]? := hj 2 _ rfl
  rw [hn, List.getElem?_eq_getElem (by omega)] at j0 j1 j2
  obtain ⟨p, hp⟩ := int_of j0
  obtain ⟨q, hq⟩ := int_of j1
  obtain ⟨r, hr⟩ := int_of j2
  refine ⟨⟨n, p, q, r⟩, ?_⟩
  unfold entC
  have e1 := List.take_append_drop 32 cs
  rw [List.drop_zero] at hn0
  rw [← e1, hn0]
  congr 1
  have hd : (cs.drop 32).length = 3 := by simp; omega
  match hcd : cs.drop 32, hd with
  | [a, b, c], _ =>
    rw [hcd] at hp hq hr
    simp at hp hq hr
    subst hp hq hr
    rfl
set_option maxRecDepth 100000 in
/-- The list of entries in an argument. -/
theorem open_ents {v : Value} {d : DataW H} {ps : List MemPlace} (hok : Value.okWide Try.prog w .any base 22 v) (h : DataW.Trod enc Try.prog w 0 (fun _ => true) held 22 v d ps) :
    ∃ a n c, v = .slice a n c ∧ n ≤ c ∧ c ≤ maxLen ∧ (n ≤ 140737488355328 → ∃ l : List Ent, l.length = n ∧ Es (fun _ => False) w v l) := by
  obtain ⟨a, n, c, rfl⟩ := okWide_slice Try.underlying22 hok
  obtain ⟨fuel, hf⟩ := h
  have hf' : DataW.trod enc Try.prog w 0 (fun _ => true) held fuel 22 [.slice a n c] = some (d, ps) := hf
  rcases open_slice Try.underlying22 hf' with ⟨h0, _⟩ | ⟨a', len, cap, m, fn, D, Pl, hcs, _, hl, hm, hmm, _, hi⟩
  · injection h0 with h0 _
    injection h0 with e1 e2 e3
    subst e1 e2 e3
    exact ⟨none, 0, 0, rfl, Nat.le_refl _, Nat.zero_le _, fun _ => ⟨[], rfl, rfl, none, 0, rfl, ⟨Nat.le_refl _, Nat.zero_le _, Nat.zero_le _⟩, fun _ => rfl, .inl rfl⟩⟩
  · injection hcs with hcs _
    injection hcs with e1 e2 e3
    subst e1 e2 e3
    refine ⟨some a', n, c, rfl, hl, hm, fun hn => ?_⟩
    have hmc : m = c := hmm
    subst hmc
    have hc35 : Try.prog.cellsOf 81 = 35 := by kernel_rfl
    have hcell : ∀ i, i < n → ∃ e : Ent, ∀ j x, (entC e)[j]? = some x → w.cell? ((a'.add (i * 35)).add j) = some x := fun i hin => by
      obtain ⟨cs', h1, h2⟩ := hi i (by omega)
      rw [hc35] at h1
      obtain ⟨_, hlen, hat⟩ := World.cells?_some h1
      obtain ⟨e, rfl⟩ := ent_of h2
      exact ⟨e, fun j x hx => by rw [hat j (by have := (List.getElem?_eq_some_iff.1 hx).1; rw [entC_length] at this; exact this)]; exact hx⟩
    by_cases h0 : n = 0
    · subst h0
      exact ⟨[], rfl, rfl, some a', m, rfl, ⟨Nat.zero_le _, Nat.zero_le _, hm⟩, (fun h => nomatch h), .inl rfl⟩
    have hspot : a'.spot = none := by
      obtain ⟨e, he⟩ := hcell 0 (by omega)
      have := he 32 _ (entC_at e).1
      obtain ⟨e0, he0⟩ : ∃ x, (entC e)[0]? = some x := ⟨_, List.getElem?_eq_getElem (by rw [entC_length]; omega)⟩
      have h3 := he 0 e0 he0
      have h4 : (a'.add (0 * 35)).add 0 = a' := by unfold Addr.add; simp
      rw [h4] at h3
      unfold World.cell? at h3
      cases hs : a'.spot with
      | none => rfl
      | some q =>
        rw [hs] at h3
        split at h3
        · simp at h3
        · cases h3
    obtain ⟨b, off, sp⟩ := a'
    simp only at hspot
    subst hspot
    have hadd : ∀ i j, ((⟨b, off, none⟩ : Addr).add (i * 35)).add j = ⟨b, off + i * 35 + j, none⟩ := fun i j => by
      unfold Addr.add
      by_cases h5 : i * 35 = 0 <;> by_cases h6 : j = 0 <;> simp [h5, h6]
    have hex : ∃ f : Nat → Ent, ∀ i, i < n → ∀ j x, (entC (f i))[j]? = some x → w.cell? ⟨b, off + i * 35 + j, none⟩ = some x := by
      refine ⟨fun i => if h : i < n then Classical.choose (hcell i h) else default, fun i hin j x hx => ?_⟩
      have hx2 : (entC (Classical.choose (hcell i hin)))[j]? = some x := by simpa [hin] using hx
      have h10 : w.cell? (((⟨b, off, none⟩ : Addr).add (i * 35)).add j) = some x := Classical.choose_spec (hcell i hin) j x hx2
      exact (congrArg w.cell? (hadd i j)).symm.trans h10
    obtain ⟨f, hf⟩ := hex
    have hb : b < w.heap.size := by
      have := hf 0 (by omega) 32 _ (entC_at (f 0)).1
      unfold World.cell? at this
      by_cases hlt : b < w.heap.size
      · exact hlt
      · rw [Array.getElem?_eq_none (xs := w.heap) (i := b) (by omega)] at this; cases this
    refine ⟨(List.range n).map f, by simp, ?_, some ⟨b, off, none⟩, m, by simp, ⟨by simp; exact hl, by simp; exact hn, hm⟩, (fun h => nomatch h), .inr ⟨b, off, rfl, hb, id, fun t x hx => ?_⟩⟩
    · rw [flatE_length]
    · have ht : t < n * 35 := by
        have h7 := (List.getElem?_eq_some_iff.1 hx).1
        have h8 : (((List.range n).map f).flatMap entC).length = n * 35 := by rw [flatE_length]; simp
        omega
      have hq : t / 35 < n := by omega
      have hr : t % 35 < 35 := Nat.mod_lt _ (by omega)
      obtain ⟨y, hy⟩ : ∃ y, (entC (f (t / 35)))[t % 35]? = some y := ⟨_, List.getElem?_eq_getElem (by rw [entC_length]; exact hr)⟩
      have h9 := flat_at entC_length (l := (List.range n).map f) (i := t / 35) (e := f (t / 35)) (by simp [hq]) hy
      rw [show t / 35 * 35 + t % 35 = t by omega, hx] at h9
      injection h9 with h9
      subst h9
      have := hf (t / 35) hq (t % 35) x hy
      rwa [show off + t / 35 * 35 + t % 35 = off + t by omega] at this
end
end Go.Proofs.Ytpomfegcifpfkaa
/- Arguments that are bytes, numbers, a byte: opened. -/
namespace Go.Proofs.Ytpomfegcifpfkaa
open Go Go.RowKit Go.Sort Go.ChangeShapes Go.WideShapes Go.Deep
section
variable {H : Type} {enc : TypeId × Value → H} {w : World} {base : Nat} {spare : Nat → Bool} {held : Bool}
set_option maxRecDepth 100000 in
theorem open_bs {v : Value} {d : DataW H} {ps : List MemPlace} (hok : Value.okWide Try.prog w .any base 23 v) (h : DataW.Trod enc Try.prog w 0 (fun _ => true) held 23 v d ps) :
    ∃ a n c, v = .slice a n c ∧ n ≤ c ∧ c ≤ maxLen ∧ (n ≤ 140737488355328 → ∃ xs : List UInt8, xs.length = n ∧ Bs (fun _ => False) w v xs) := by
  obtain ⟨a, n, c, rfl⟩ := okWide_slice Try.underlying23 hok
  obtain ⟨fuel, hf⟩ := h
  have hf' : DataW.trod enc Try.prog w 0 (fun _ => true) held fuel 23 [.slice a n c] = some (d, ps) := hf
  rcases open_ints Try.underlying23 Try.underlying5 (by kernel_rfl) hf' with ⟨h0, _⟩ | ⟨a', len, cap, zs, hcs, _, hl, hm, hz, _, hcell, hwf⟩
  · injection h0 with h0 _
    injection h0 with e1 e2 e3
    subst e1 e2 e3
    exact ⟨none, 0, 0, rfl, Nat.le_refl _, Nat.zero_le _, fun _ => ⟨[], rfl, Bs.nil _ _⟩⟩
  · injection hcs with hcs _
    injection hcs with e1 e2 e3
    subst e1 e2 e3
    simp only [if_true] at hz
    refine ⟨some a', n, c, rfl, hl, hm, fun hn => ?_⟩
    by_cases h0 : n = 0
    · subst h0
      exact ⟨[], rfl, some a', c, rfl, ⟨Nat.zero_le _, Nat.zero_le _, hm⟩, (fun h => nomatch h), .inl rfl⟩
    obtain ⟨b, off, sp⟩ := a'
    have hspot : sp = none := by simpa [Addr.add] using World.cell?_spot (hcell 0 (by omega))
    subst hspot
    have hadd : ∀ j, (⟨b, off, none⟩ : Addr).add j = ⟨b, off + j, none⟩ := fun j => by unfold Addr.add; split <;> simp_all
    have hb : b < w.heap.size := by
      have := hcell 0 (by omega)
      unfold World.cell? at this
      by_cases hlt : b < w.heap.size
      · exact hlt
      · rw [show ((⟨b, off, none⟩ : Addr).add 0).block = b by rw [hadd], Array.getElem?_eq_none (xs := w.heap) (i := b) (by omega)] at this; cases this
    refine ⟨(zs.take n).map fun z => UInt8.ofNat z.toNat, by simp; omega, some ⟨b, off, none⟩, c, by simp; omega, ⟨by simp; omega, by simp; omega, hm⟩, (fun h => nomatch h), .inr ⟨b, off, rfl, hb, id, fun i x hx => ?_⟩⟩
    rw [List.getElem?_map, Option.map_eq_some_iff] at hx
    obtain ⟨z, hzi, rfl⟩ := hx
    have hi : i < n := by
      have := (List.getElem?_eq_some_iff.1 hzi).1
      simp at this; omega
    rw [List.getElem?_take_of_lt hi] at hzi
    have h3 := hcell i (by omega)
    rw [hadd] at h3
    rw [h3]
    have h4 : zs.getD i 0 = z := by rw [List.getD_eq_getElem?_getD, hzi]; rfl
    have h5 := hwf z (List.mem_of_getElem? hzi)
    have h6 : 0 ≤ z ∧ z ≤ 255 := by simpa [Lit.wf, IntKind.min, IntKind.max, IntKind.signed, IntKind.bits] using h5
    rw [h4]
    congr 2
    simp only [UInt8.toNat_ofNat']
    omega
set_option maxRecDepth 100000 in
theorem open_num {v : Value} (hok : Value.okWide Try.prog w .any base 3 v) : ∃ n : Int, v = .int .i64 n := okWide_int Try.underlying3 hok
set_option maxRecDepth 100000 in
theorem open_u8 {v : Value} {d : DataW H} {ps : List MemPlace} (hok : Value.okWide Try.prog w .any base 5 v) (h : DataW.Trod enc Try.prog w 0 (fun _ => true) held 5 v d ps) : ∃ b : UInt8, v = .int .u8 (b.toNat : Int) := by
  obtain ⟨n, rfl⟩ := okWide_int Try.underlying5 hok
  obtain ⟨fuel, hf⟩ := h
  have hf' : DataW.trod enc Try.prog w 0 (fun _ => true) held fuel 5 [.int .u8 n] = some (d, ps) := hf
  obtain ⟨b, hb⟩ := byte_of hf'
  refine ⟨b, ?_⟩
  injection hb
end
end Go.Proofs.Ytpomfegcifpfkaa
