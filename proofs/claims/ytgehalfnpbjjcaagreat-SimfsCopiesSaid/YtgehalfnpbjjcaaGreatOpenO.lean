/- An argument that is a list of calls of a file system, opened. -/
import Derived.Test.YtgehalfnpbjjcaaGreatRefPure
import Derived.Test.YtgehalfnpbjjcaaGreatClone
import Derived.OpenShut
import Derived.ChangeArms
import Derived.Deep.Slices
import Derived.WideShapes
namespace Go.Proofs.YtgehalfnpbjjcaaGreat
open Go Go.RowKit Go.ChangeShapes Go.WideShapes Go.Deep
section
variable {H : Type} {enc : TypeId × Value → H} {w : World} {base : Nat} {spare : Nat → Bool} {held : Bool}
set_option maxRecDepth 100000 in
/-- A slice in an argument, whose elements are told each. -/
theorem open_rows {α : Type} {k : Nat} (hk : 0 < k) (f : α → List Value) (hfl : ∀ a, (f a).length = k) (G : α → Prop) {tS tE : TypeId} (u : Tryz.prog.underlying tS = some (.slice tE)) (hc : Tryz.prog.cellsOf tE = k)
    (el : ∀ (fuel : Nat) (cs : List Value) (x : DataW H × List MemPlace), DataW.trod enc Tryz.prog w 0 (fun _ => true) held fuel tE cs = some x → ∃ o, cs = f o ∧ G o) {fuel : Nat} {cs : List Value} {x : DataW H × List MemPlace} (hf : DataW.trod enc Tryz.prog w 0 (fun _ => true) held fuel tS cs = some x) :
    ∃ a n c, cs = [.slice a n c] ∧ n ≤ c ∧ c ≤ maxLen ∧ (n ≤ 140737488355328 → ∃ l : List α, l.length = n ∧ (∀ o ∈ l, G o) ∧ Row (fun _ => False) w (.slice a n c) n k (l.flatMap f)) := by
  rcases open_slice u hf with ⟨h0, _⟩ | ⟨a', n, c, m, fn, D, Pl, hcs, _, hl, hm, hmm, _, hi⟩
  · exact ⟨none, 0, 0, h0, Nat.le_refl _, Nat.zero_le _, fun _ => ⟨[], rfl, by simp, ⟨by simp, none, 0, rfl, ⟨Nat.le_refl _, Nat.zero_le _, Nat.zero_le _⟩, fun _ => rfl, .inl rfl⟩⟩⟩
  · refine ⟨some a', n, c, hcs, hl, hm, fun hn => ?_⟩
    have hmc : m = c := hmm
    subst hmc
    have hcell : ∀ i, i < n → ∃ e : α, G e ∧ ∀ j x, (f e)[j]? = some x → w.cell? ((a'.add (i * k)).add j) = some x := fun i hin => by
      obtain ⟨cs', h1, h2⟩ := hi i (by omega)
      rw [hc] at h1
      obtain ⟨_, hlen, hat⟩ := World.cells?_some h1
      obtain ⟨e, rfl, hG⟩ := el _ _ _ h2
      exact ⟨e, hG, fun j x hx => by rw [hat j (by have := (List.getElem?_eq_some_iff.1 hx).1; rw [hfl] at this; exact this)]; exact hx⟩
    by_cases h0 : n = 0
    · subst h0
      exact ⟨[], rfl, by simp, ⟨by simp, some a', m, rfl, ⟨Nat.zero_le _, Nat.zero_le _, hm⟩, (fun h => nomatch h), .inl rfl⟩⟩
    have hspot : a'.spot = none := by
      obtain ⟨e, _, he⟩ := hcell 0 (by omega)
      obtain ⟨e0, he0⟩ : ∃ x, (f e)[0]? = some x := ⟨_, List.getElem?_eq_getElem (by rw [hfl]; omega)⟩
      have h3 := he 0 e0 he0
      have h4 : (a'.add (0 * k)).add 0 = a' := by unfold Addr.add; simp
      rw [h4] at h3
      exact World.cell?_spot h3
    obtain ⟨b, off, sp⟩ := a'
    simp only at hspot
    subst hspot
    have hadd : ∀ i j, ((⟨b, off, none⟩ : Addr).add (i * k)).add j = ⟨b, off + i * k + j, none⟩ := fun i j => by
      unfold Addr.add
      by_cases h5 : i * k = 0 <;> by_cases h6 : j = 0 <;> simp [h5, h6]
    have hex : ∃ g : Nat → α, ∀ i, i < n → G (g i) ∧ ∀ j x, (f (g i))[j]? = some x → w.cell? ⟨b, off + i * k + j, none⟩ = some x := by
      obtain ⟨e0, _⟩ := hcell 0 (by omega)
      refine ⟨fun i => if h : i < n then Classical.choose (hcell i h) else e0, fun i hin => ?_⟩
      have h9 := Classical.choose_spec (hcell i hin)
      simp only [hin, dif_pos]
      exact ⟨h9.1, fun j x hx => (congrArg w.cell? (hadd i j)).symm.trans (h9.2 j x hx)⟩
    obtain ⟨g, hg⟩ := hex
    have hb : b < w.heap.size := by
      obtain ⟨e0, he0⟩ : ∃ x, (f (g 0))[0]? = some x := ⟨_, List.getElem?_eq_getElem (by rw [hfl]; omega)⟩
      have := (hg 0 (by omega)).2 0 e0 he0
      unfold World.cell? at this
      by_cases hlt : b < w.heap.size
      · exact hlt
      · rw [Array.getElem?_eq_none (xs := w.heap) (i := b) (by omega)] at this; cases this
    refine ⟨(List.range n).map g, by simp, fun o ho => ?_, ?_, some ⟨b, off, none⟩, m, rfl, ⟨hl, hn, hm⟩, (fun h => nomatch h), .inr ⟨b, off, rfl, hb, id, fun t x hx => ?_⟩⟩
    · obtain ⟨i, hi, rfl⟩ := List.mem_map.1 ho
      exact (hg i (by simpa using hi)).1
    · rw [flat_length hfl]
      simp
    · have ht : t < n * k := by
        have h7 := (List.getElem?_eq_some_iff.1 hx).1
        have h8 : (((List.range n).map g).flatMap f).length = n * k := by rw [flat_length hfl]; simp
        omega
      have hq : t / k < n := Nat.div_lt_of_lt_mul (by rw [Nat.mul_comm]; exact ht)
      have hr : t % k < k := Nat.mod_lt _ hk
      obtain ⟨y, hy⟩ : ∃ y, (f (g (t / k)))[t % k]? = some y := ⟨_, List.getElem?_eq_getElem (by rw [hfl]; exact hr)⟩
      have h9 := flat_at hfl (l := (List.range n).map g) (i := t / k) (c := g (t / k)) (by simp [hq]) (t % k) hr
      have hdm : t / k * k + t % k = t := by rw [Nat.mul_comm]; exact Nat.div_add_mod t k
      rw [hdm, hx, hy] at h9
      injection h9 with h9
      subst h9
      have := (hg (t / k) hq).2 (t % k) x hy
      rwa [Nat.add_assoc, hdm] at this
theorem flat_one {α : Type} (g : α → Value) (l : List α) : l.flatMap (fun a => [g a]) = l.map g := by
  induction l with
  | nil => rfl
  | cons a l ih => rw [List.flatMap_cons, ih]; rfl
theorem byteO {fuel : Nat} {cs : List Value} {x : DataW H × List MemPlace} (h : DataW.trod enc Tryz.prog w base spare held fuel 5 cs = some x) : ∃ b : UInt8, cs = [bcell b] := by
  obtain ⟨n, rfl, _, hw⟩ := DataW.trod_int Tryz.underlying5 h
  have hx : 0 ≤ n ∧ n ≤ 255 := by simpa [Lit.wf, IntKind.min, IntKind.max, IntKind.signed, IntKind.bits] using hw
  refine ⟨UInt8.ofNat n.toNat, ?_⟩
  have : ((UInt8.ofNat n.toNat).toNat : Int) = n := by rw [UInt8.toNat_ofNat']; omega
  unfold bcell; rw [this]
theorem intB {fuel : Nat} {cs : List Value} {x : DataW H × List MemPlace} (h : DataW.trod enc Tryz.prog w base spare held fuel 3 cs = some x) : ∃ n : Int, cs = [.int .i64 n] ∧ n < 9223372036854775808 := by
  obtain ⟨n, rfl, _, hw⟩ := DataW.trod_int Tryz.underlying3 h
  have hx : -9223372036854775808 ≤ n ∧ n ≤ 9223372036854775807 := by simpa [Lit.wf, IntKind.min, IntKind.max, IntKind.signed, IntKind.bits] using hw
  exact ⟨n, rfl, by omega⟩
theorem intO {fuel : Nat} {cs : List Value} {x : DataW H × List MemPlace} (h : DataW.trod enc Tryz.prog w base spare held fuel 3 cs = some x) : ∃ n : Int, cs = [.int .i64 n] := by
  obtain ⟨n, rfl, _, _⟩ := DataW.trod_int Tryz.underlying3 h
  exact ⟨n, rfl⟩
end
/-- Bytes of an argument: a slice of them. -/
def ABs (w : World) (a : Option Addr) (n c : Nat) : Prop := n ≤ c ∧ c ≤ maxLen ∧ (n ≤ 140737488355328 → ∃ xs : List UInt8, xs.length = n ∧ Bs (fun _ => False) w (.slice a n c) xs)
def AIs (w : World) (a : Option Addr) (n c : Nat) : Prop := n ≤ c ∧ c ≤ maxLen ∧ (n ≤ 140737488355328 → ∃ xs : List Int, xs.length = n ∧ Row (fun _ => False) w (.slice a n c) n 1 (xs.map (Value.int .i64)))
/-- A call of a file system, as it lies. -/
structure OpV where
  kind : Int
  name : ByteArray
  to : ByteArray
  ba : Option Addr
  bn : Nat
  bc : Nat
  n : Int
  by_ : UInt8
  ca : Option Addr
  cn : Nat
  cc : Nat
def opC (o : OpV) : List Value := [.int .i64 o.kind, .string o.name, .string o.to, .slice o.ba o.bn o.bc, .int .i64 o.n, bcell o.by_, .slice o.ca o.cn o.cc]
theorem opC_len (o : OpV) : (opC o).length = 7 := rfl
structure OpG (w : World) (o : OpV) : Prop where
  b : ABs w o.ba o.bn o.bc
  c : AIs w o.ca o.cn o.cc
  n : o.n < 9223372036854775808
section
variable {H : Type} {enc : TypeId × Value → H} {w : World} {held : Bool}
theorem bsO {fuel : Nat} {cs : List Value} {x : DataW H × List MemPlace} (h : DataW.trod enc Tryz.prog w 0 (fun _ => true) held fuel 33 cs = some x) : ∃ a n c, cs = [.slice a n c] ∧ ABs w a n c := by
  obtain ⟨a, n, c, h1, h2, h3, h4⟩ := open_rows (k := 1) (by decide) (fun b : UInt8 => [bcell b]) (fun _ => rfl) (fun _ => True) Tryz.underlying33 (by kernel_rfl) (fun _ _ _ h => by obtain ⟨b, hb⟩ := byteO h; exact ⟨b, hb, trivial⟩) h
  refine ⟨a, n, c, h1, h2, h3, fun hn => ?_⟩
  obtain ⟨l, hl, _, hr⟩ := h4 hn
  refine ⟨l, hl, Bs.of_row (n := n) ?_⟩
  have e : l.flatMap (fun b : UInt8 => [bcell b]) = bcells l := flat_one bcell l
  rwa [e] at hr
theorem isO {fuel : Nat} {cs : List Value} {x : DataW H × List MemPlace} (h : DataW.trod enc Tryz.prog w 0 (fun _ => true) held fuel 34 cs = some x) : ∃ a n c, cs = [.slice a n c] ∧ AIs w a n c := by
  obtain ⟨a, n, c, h1, h2, h3, h4⟩ := open_rows (k := 1) (by decide) (fun b : Int => [Value.int .i64 b]) (fun _ => rfl) (fun _ => True) Tryz.underlying34 (by kernel_rfl) (fun _ _ _ h => by obtain ⟨b, hb⟩ := intO h; exact ⟨b, hb, trivial⟩) h
  refine ⟨a, n, c, h1, h2, h3, fun hn => ?_⟩
  obtain ⟨l, hl, _, hr⟩ := h4 hn
  refine ⟨l, hl, ?_⟩
  have e : l.flatMap (fun b : Int => [Value.int .i64 b]) = l.map (Value.int .i64) := flat_one _ l
  rwa [e] at hr
theorem strO {fuel : Nat} {cs : List Value} {x : DataW H × List MemPlace} (h : DataW.trod enc Tryz.prog w 0 (fun _ => true) held fuel 9 cs = some x) : ∃ s, cs = [.string s] := by
  obtain ⟨s, rfl, _, _⟩ := DataW.trod_string Tryz.underlying9 h
  exact ⟨s, rfl⟩
set_option maxRecDepth 100000 in
theorem opO {fuel : Nat} {cs : List Value} {x : DataW H × List MemPlace} (h : DataW.trod enc Tryz.prog w 0 (fun _ => true) held fuel 36 cs = some x) : ∃ o, cs = opC o ∧ OpG w o := by
  obtain ⟨xs, m, _, _, hl, hx, hi⟩ := DataW.trod_struct Tryz.underlying36 h
  have hc : Tryz.prog.cellsOf 36 = 7 := by kernel_rfl
  have hn : Tryz.prog.cellsOf 3 = 1 := by kernel_rfl
  have hs : Tryz.prog.cellsOf 9 = 1 := by kernel_rfl
  have hb : Tryz.prog.cellsOf 33 = 1 := by kernel_rfl
  have hy : Tryz.prog.cellsOf 5 = 1 := by kernel_rfl
  have hz : Tryz.prog.cellsOf 34 = 1 := by kernel_rfl
  rw [hc] at hl
  have hx7 : xs.length = 7 := hx
  have h0 : DataW.trod enc Tryz.prog w 0 (fun _ => true) held m 3 ((cs.drop 0).take (Tryz.prog.cellsOf 3)) = xs[0]? := hi 0 _ rfl
  have h1 : DataW.trod enc Tryz.prog w 0 (fun _ => true) held m 9 ((cs.drop 1).take (Tryz.prog.cellsOf 9)) = xs[1]? := hi 1 _ rfl
  have h2 : DataW.trod enc Tryz.prog w 0 (fun _ => true) held m 9 ((cs.drop 2).take (Tryz.prog.cellsOf 9)) = xs[2]? := hi 2 _ rfl
  have h3 : DataW.trod enc Tryz.prog w 0 (fun _ => true) held m 33 ((cs.drop 3).take (Tryz.prog.cellsOf 33)) = xs[3]? := hi 3 _ rfl
  have h4 : DataW.trod enc Tryz.prog w 0 (fun _ => true) held m 3 ((cs.drop 4).take (Tryz.prog.cellsOf 3)) = xs[4]? := hi 4 _ rfl
  have h5 : DataW.trod enc Tryz.prog w 0 (fun _ => true) held m 5 ((cs.drop 5).take (Tryz.prog.cellsOf 5)) = xs[5]? := hi 5 _ rfl
  have h6 : DataW.trod enc Tryz.prog w 0 (fun _ => true) held m 34 ((cs.drop 6).take (Tryz.prog.cellsOf 34)) = xs[6]? := hi 6 _ rfl
  rw [hn, List.getElem?_eq_getElem (by omega)] at h0 h4
  rw [hs, List.getElem?_eq_getElem (by omega)] at h1 h2
  rw [hb, List.getElem?_eq_getElem (by omega)] at h3
  rw [hy, List.getElem?_eq_getElem (by omega)] at h5
  rw [hz, List.getElem?_eq_getElem (by omega)] at h6
  obtain ⟨k, e0⟩ := intO h0
  obtain ⟨nm, e1⟩ := strO h1
  obtain ⟨tt, e2⟩ := strO h2
  obtain ⟨ba, bn, bc, e3, gb⟩ := bsO h3
  obtain ⟨n, e4, hn9⟩ := intB h4
  obtain ⟨y, e5⟩ := byteO h5
  obtain ⟨ca, cn, cc, e6, gc⟩ := isO h6
  refine ⟨⟨k, nm, tt, ba, bn, bc, n, y, ca, cn, cc⟩, ?_, gb, gc, hn9⟩
  match cs, hl with
  | [a, b, c, d, e, f, g], _ =>
    simp at e0 e1 e2 e3 e4 e5 e6
    subst e0 e1 e2 e3 e4 e5 e6
    rfl
/-- An argument that is a list of calls. -/
def AOps (w : World) (a : Option Addr) (n c : Nat) : Prop := n ≤ c ∧ c ≤ maxLen ∧ (n ≤ 140737488355328 → ∃ l : List OpV, l.length = n ∧ (∀ o ∈ l, OpG w o) ∧ Row (fun _ => False) w (.slice a n c) n 7 (l.flatMap opC))
set_option maxRecDepth 100000 in
theorem open_ops {base : Nat} {v : Value} {d : DataW H} {ps : List MemPlace} (hok : Value.okWide Tryz.prog w .any base 22 v) (h : DataW.Trod enc Tryz.prog w 0 (fun _ => true) held 22 v d ps) : ∃ a n c, v = .slice a n c ∧ AOps w a n c := by
  obtain ⟨a, n, c, rfl⟩ := okWide_slice Tryz.underlying22 hok
  obtain ⟨fuel, hf⟩ := h
  have hf' : DataW.trod enc Tryz.prog w 0 (fun _ => true) held fuel 22 [.slice a n c] = some (d, ps) := hf
  obtain ⟨a', n', c', h1, h2, h3, h4⟩ := open_rows (k := 7) (by decide) opC opC_len (OpG w) Tryz.underlying22 (by kernel_rfl) (fun _ _ _ h => opO h) hf'
  injection h1 with h1 _
  injection h1 with e1 e2 e3
  subst e1 e2 e3
  exact ⟨a, n, c, rfl, h2, h3, h4⟩
set_option maxRecDepth 100000 in
theorem open_bytes {base : Nat} {v : Value} {d : DataW H} {ps : List MemPlace} (hok : Value.okWide Tryz.prog w .any base 33 v) (h : DataW.Trod enc Tryz.prog w 0 (fun _ => true) held 33 v d ps) : ∃ a n c, v = .slice a n c ∧ ABs w a n c := by
  obtain ⟨a, n, c, rfl⟩ := okWide_slice Tryz.underlying33 hok
  obtain ⟨fuel, hf⟩ := h
  have hf' : DataW.trod enc Tryz.prog w 0 (fun _ => true) held fuel 33 [.slice a n c] = some (d, ps) := hf
  obtain ⟨a', n', c', h1, h2⟩ := bsO hf'
  injection h1 with h1 _
  injection h1 with e1 e2 e3
  subst e1 e2 e3
  exact ⟨a, n, c, rfl, h2⟩
set_option maxRecDepth 100000 in
theorem open_ints' {base : Nat} {v : Value} {d : DataW H} {ps : List MemPlace} (hok : Value.okWide Tryz.prog w .any base 34 v) (h : DataW.Trod enc Tryz.prog w 0 (fun _ => true) held 34 v d ps) : ∃ a n c, v = .slice a n c ∧ AIs w a n c := by
  obtain ⟨a, n, c, rfl⟩ := okWide_slice Tryz.underlying34 hok
  obtain ⟨fuel, hf⟩ := h
  have hf' : DataW.trod enc Tryz.prog w 0 (fun _ => true) held fuel 34 [.slice a n c] = some (d, ps) := hf
  obtain ⟨a', n', c', h1, h2⟩ := isO hf'
  injection h1 with h1 _
  injection h1 with e1 e2 e3
  subst e1 e2 e3
  exact ⟨a, n, c, rfl, h2⟩
end
end Go.Proofs.YtgehalfnpbjjcaaGreat
