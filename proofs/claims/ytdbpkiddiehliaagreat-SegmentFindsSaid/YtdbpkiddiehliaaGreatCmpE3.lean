/- Comparisons of names and entries: bytes.Compare, sha.Compare, segment's compare and against, and Sort's equality, with the sizes of a name and an entry left open. -/
import Derived.Test.YtdbpkiddiehliaaGreatStable0
import Derived.Lib.Bytealg
import Derived.Lib.UnsafeStr
import Derived.Laws.Externs
import Derived.Sort.Grow
import Derived.Outline
import Derived.BigQuiet
import Derived.Deep.QuietTactic
import Derived.Test.YtdbpkiddiehliaaGreatClone
import Derived.Shelf.SlicesQ.Load
import Derived.Stop.BytesEq
namespace Go.Proofs.YtdbpkiddiehliaaGreat
open Go Go.RowKit Go.Sort
/-- Only draws and new blocks. -/
def Grown (w w' : World) : Prop := ∃ q os, w' = grow (w.drewN q) os
theorem drewN_grow (w : World) (os : Array Obj) (n : Nat) : (grow w os).drewN n = grow (w.drewN n) os := rfl
theorem Grown.refl (w : World) : Grown w w := ⟨0, #[], by rw [grow_empty]; rfl⟩
theorem Grown.alloc {w w' : World} (h : Grown w w') (o : Obj) : Grown w (w'.alloc o) := by
  obtain ⟨q, os, rfl⟩ := h
  exact ⟨q, os ++ #[o], by rw [alloc_eq_grow, grow_grow]⟩
theorem Grown.drewN {w w' : World} (h : Grown w w') (n : Nat) : Grown w (w'.drewN n) := by
  obtain ⟨q, os, rfl⟩ := h
  exact ⟨q + n, os, by rw [drewN_grow, World.drewN_drewN]⟩
theorem Grown.drew {w w' : World} (h : Grown w w') : Grown w w'.drew := h.drewN 1
theorem Grown.trans {a b c : World} (h : Grown a b) (k : Grown b c) : Grown a c := by
  obtain ⟨q, os, rfl⟩ := h
  obtain ⟨q2, os2, rfl⟩ := k
  exact ⟨q + q2, os ++ os2, by rw [drewN_grow, World.drewN_drewN, grow_grow]⟩
theorem Grown.size {w w' : World} (h : Grown w w') : w.heap.size ≤ w'.heap.size := by
  obtain ⟨q, os, rfl⟩ := h
  rw [size_grow]; exact Nat.le_add_right _ _
theorem Grown.fr {w w' : World} (h : Grown w w') (S : Nat → Prop) : Fr S w w' := by
  obtain ⟨q, os, rfl⟩ := h
  exact ⟨rfl, rfl, rfl, by rw [size_grow]; exact Nat.le_add_right _ _, fun k hk _ => heap_grow_old (w.drewN q) os hk⟩
theorem Grown.below {w w' : World} (h : Grown w w') : Below w.heap.size w w' := (h.fr (fun _ => False)).below
theorem compareBytes_eq : ∀ a b, Lib.compareBytes a b = cmpL a b
  | [], [] => rfl
  | [], _ :: _ => rfl
  | _ :: _, [] => rfl
  | x :: a, y :: b => by
    rw [Lib.compareBytes, compareBytes_eq a b]
    unfold cmpL
    rw [ltL]
    by_cases e : x = y
    · subst e
      simp
    · rw [if_neg e]
      by_cases h : x < y
      · simp [h]
      · have h2 : y < x := by
          rcases UInt8.lt_or_lt_of_ne e with h3 | h3
          · exact absurd h3 h
          · exact h3
        simp [h, h2, e]
theorem run_loadB {P : Program} {w : World} : ∀ (l : List UInt8) (a : Addr) (acc : ByteArray), (∀ j x, l[j]? = some x → w.cell? (a.add j) = some (.int .u8 x.toNat)) →
    (Extern.Bytes.loadBytes a l.length acc).run P w = .ok ⟨acc.data ++ l.toArray⟩ w
  | [], a, acc, _ => by simp [Extern.Bytes.loadBytes]
  | x :: l, a, acc, h => by
    have h0 : w.cell? a = some (.int .u8 x.toNat) := by
      have := h 0 x rfl
      simpa [Addr.add] using this
    have ih := run_loadB (P := P) l (a.add 1) (acc.push x) (fun j y hy => by
      have := h (j + 1) y (by simpa using hy)
      have e : (a.add 1).add j = a.add (j + 1) := by
        unfold Addr.add
        by_cases hj : j = 0
        · subst hj; simp
        · simp [hj]; omega
      rw [e]; exact this)
    have hx : ((x.toNat : Int).toNat).toUInt8 = x := by simp
    simp only [List.length_cons, Extern.Bytes.loadBytes, Sem.run_bind, run_load, h0, Result.andThen, hx]
    rw [ih]
    congr 1
    apply ByteArray.ext
    simp
theorem cell_bytes {S : Nat → Prop} {w : World} {v : Value} {xs : List UInt8} (h : Bs S w v xs) {P : Program} : (Extern.Bytes.bytesOf v).run P w = .ok ⟨xs.toArray⟩ w := by
  obtain ⟨a, c, rfl, _, _, h4⟩ := h
  rcases h4 with rfl | ⟨b, off, rfl, _, _, hc⟩
  · cases a with
    | none => rfl
    | some a => rfl
  · show (Extern.Bytes.loadBytes _ _ _).run P w = _
    rw [run_loadB (w := w) xs ⟨b, off, none⟩ .empty (fun j x hx => by
      have hadd : (⟨b, off, none⟩ : Addr).add j = ⟨b, off + j, none⟩ := by unfold Addr.add; split <;> simp_all
      rw [hadd]; exact hc j x hx)]
    simp
theorem cmpx {S S' : Nat → Prop} {w : World} {u v : Value} {xs ys : List UInt8} (hu : Bs S w u xs) (hv : Bs S' w v ys) : (callFunc 68 #[u, v]).run Tryz.prog w = .ok (.value (.int .i64 (cmpL xs ys))) w := by
  rw [run_callFunc_extern Tryz.func68 (by kernel_rfl) (by kernel_rfl) (by kernel_rfl) (e := Extern.BytealgCompare.compare) (by kernel_rfl)]
  change (Sem.run Tryz.prog (do pure (goInt (Extern.BytealgCompare.cmp (← Extern.Bytes.bytesOf u) (← Extern.Bytes.bytesOf v)))) w).andThen _ = _
  simp only [Sem.run_bind, cell_bytes hu, cell_bytes hv, Result.andThen_ok, Sem.run_pure]
  rw [Lib.cmp_eq, compareBytes_eq]
  rfl
/-- What the comparisons lean on of the program. -/
structure SC (P : Program) (k h : Nat) : Prop where
  mixed : P.follows .mixedOrders = true
  f1 : P.funcs[53]? = some Tryz.f53
  f2 : P.funcs[38]? = some Tryz.f38
  f3 : P.funcs[37]? = some Tryz.f37
  f4 : P.funcs[22]? = some Tryz.f22
  f5 : P.funcs[41]? = some Tryz.f41
  x1 : ∀ {S S' : Nat → Prop} {w : World} {u v : Value} {xs ys : List UInt8}, Bs S w u xs → Bs S' w v ys → (callFunc 68 #[u, v]).run P w = .ok (.value (.int .i64 (cmpL xs ys))) w
  t0 : P.underlying 0 = some (TypeDesc.tuple #[])
  a0 : ∀ w, (isAgg 0).run P w = .ok false w
  z0 : ∀ w, (Go.sizeOf 0).run P w = .ok 1 w
  v0 : ∀ w, (zeroValue 0).run P w = .ok (Value.tuple #[]) w
  ti : P.underlying 3 = some (TypeDesc.int IntKind.i64)
  ai : ∀ w, (isAgg 3).run P w = .ok false w
  zi : ∀ w, (Go.sizeOf 3).run P w = .ok 1 w
  vi : ∀ w, (zeroValue 3).run P w = .ok (Value.int IntKind.i64 0) w
  tb : P.underlying 4 = some (TypeDesc.bool)
  ab : ∀ w, (isAgg 4).run P w = .ok false w
  zb : ∀ w, (Go.sizeOf 4).run P w = .ok 1 w
  vb : ∀ w, (zeroValue 4).run P w = .ok (Value.bool false) w
  ts : P.underlying 49 = some (TypeDesc.slice 5)
  az : ∀ w, (isAgg 49).run P w = .ok false w
  zs : ∀ w, (Go.sizeOf 49).run P w = .ok 1 w
  vs : ∀ w, (zeroValue 49).run P w = .ok (Value.slice none 0 0) w
  zy : ∀ w, (Go.sizeOf 5).run P w = .ok 1 w
  ty : P.underlying 5 = some (TypeDesc.int IntKind.u8)
  gH : P.eqGuardType P.depth 24 = false
  tE : P.underlying 54 = some (TypeDesc.struct #[{ name := "Name", type := 24, offset := 0, embedded := false, tag := "", pkgPath := "", byteOffset := 0 }, { name := "W", type := 28, offset := 32, embedded := false, tag := "", pkgPath := "", byteOffset := 32 }])
  aE : ∀ w, (isAgg 54).run P w = .ok true w
  zE : ∀ w, (Go.sizeOf 54).run P w = .ok k w
  tH : P.underlying 24 = some (TypeDesc.array 32 5)
  aH : ∀ w, (isAgg 24).run P w = .ok true w
  zH : ∀ w, (Go.sizeOf 24).run P w = .ok h w
theorem sc : SC Tryz.prog 35 32 := {
  mixed := by kernel_rfl
  f1 := Tryz.func53
  f2 := Tryz.func38
  f3 := Tryz.func37
  f4 := Tryz.func22
  f5 := Tryz.func41
  x1 := cmpx
  t0 := Tryz.underlying0
  a0 := Tryz.isAgg0
  z0 := Tryz.sizeOf0
  v0 := Tryz.zeroValue0
  ti := Tryz.underlying3
  ai := Tryz.isAgg3
  zi := Tryz.sizeOf3
  vi := Tryz.zeroValue3
  tb := Tryz.underlying4
  ab := Tryz.isAgg4
  zb := Tryz.sizeOf4
  vb := Tryz.zeroValue4
  ts := Tryz.underlying49
  az := Tryz.isAgg49
  zs := Tryz.sizeOf49
  vs := Tryz.zeroValue49
  zy := Tryz.sizeOf5
  ty := Tryz.underlying5
  gH := by kernel_rfl
  tE := Tryz.underlying54
  aE := Tryz.isAgg54
  zE := Tryz.sizeOf54
  tH := Tryz.underlying24
  aH := Tryz.isAgg24
  zH := Tryz.sizeOf24 }
variable {P : Program} {k h : Nat}
set_option maxHeartbeats 1000000 in
set_option maxRecDepth 100000 in
theorem bytesCompare_ok (L : SC P k h) {S S' : Nat → Prop} {w : World} {u v : Value} {xs ys : List UInt8} (hu : Bs S w u xs) (hv : Bs S' w v ys) :
    Calls P 53 #[u, v] w fun e w' => e = .returned (.int .i64 (cmpL xs ys)) ∧ w = w' := by
  have hx := L.x1 hu hv
  obtain ⟨a, c, rfl, _⟩ := hu
  obtain ⟨a2, c2, rfl, _⟩ := hv
  have mixed := L.mixed; have t0 := L.t0; have a0 := L.a0; have z0 := L.z0; have v0 := L.v0; have ti := L.ti; have ai := L.ai; have zi := L.zi; have vi := L.vi; have tb := L.tb; have ab := L.ab; have zb := L.zb; have vb := L.vb; have ts := L.ts; have az := L.az; have zs := L.zs; have vs := L.vs; have zy := L.zy; have tE := L.tE; have aE := L.aE; have zE := L.zE; have tH := L.tH; have aH := L.aH; have zH := L.zH
  generalize cmpL xs ys = r at *
  go_enter L.f1, Tryz.ntmps53
  go_wp2
  go_ret
  exact ⟨rfl, rfl⟩
end Go.Proofs.YtdbpkiddiehliaaGreat
/- sha.Compare, and segment's compare and against. -/
namespace Go.Proofs.YtdbpkiddiehliaaGreat
open Go Go.RowKit Go.Sort
variable {P : Program} {k h : Nat}
/-- An entry's cells. -/
def entC (e : Ent) : List Value := bcells e.nm.1 ++ [.int .i64 e.pk, .int .i64 e.pos, .int .i64 e.ln]
theorem entC_length (e : Ent) : (entC e).length = 35 := by unfold entC; rw [List.length_append, bcells_length, e.nm.2]; rfl
theorem entC_one (e : Ent) : ∀ u ∈ entC e, u.oneCell' = true := by
  intro u hu
  rcases List.mem_append.1 hu with hu | hu
  · exact bcells_one _ u hu
  · simp only [List.mem_cons, List.not_mem_nil, or_false] at hu
    rcases hu with rfl | rfl | rfl <;> rfl
theorem box_bytes {w : World} {b t : Nat} {xs : List UInt8} {S : Nat → Prop} (hs : ¬ S b) (hl : xs.length ≤ 140737488355328) (hb : w.heap[b]? = some (.cells (bcells xs).toArray t (0, 0))) : Bs S w (.slice (some ⟨b, 0, none⟩) xs.length xs.length) xs :=
  ⟨_, _, rfl, ⟨Nat.le_refl _, hl, by unfold maxLen; omega⟩, (fun h => nomatch h), .inr ⟨b, 0, rfl, lt_of_heap hb, hs, fun i x hx => by
    rw [cell_of_heap hb]; simp [bcells, hx, bcell]⟩⟩
theorem load_name {P : Program} {w : World} {b t : Nat} {e : Ent} (hb : w.heap[b]? = some (.cells (entC e).toArray t (0, 0))) : Sem.run P (loadCellsFrom ⟨b, 0, none⟩ 0 32 #[]) w = .ok (bcells e.nm.1).toArray w := by
  refine run_loadCellsFrom_list P w ⟨b, 0, none⟩ (bcells e.nm.1) 32 (by rw [bcells_length, e.nm.2]) (fun j v hv => ?_)
  have hadd : (⟨b, 0, none⟩ : Addr).add j = ⟨b, j, none⟩ := by unfold Addr.add; split <;> simp_all
  rw [hadd, cell_of_heap hb]
  unfold entC
  have hj := (List.getElem?_eq_some_iff.1 hv).1
  simp only [List.getElem?_toArray]
  rw [List.getElem?_append_left hj]; exact hv
theorem load_hash {P : Program} {w : World} {b t : Nat} {n : Nm} (hb : w.heap[b]? = some (.cells (bcells n.1).toArray t (0, 0))) : Sem.run P (loadCellsFrom ⟨b, 0, none⟩ 0 32 #[]) w = .ok (bcells n.1).toArray w := by
  refine run_loadCellsFrom_list P w ⟨b, 0, none⟩ (bcells n.1) 32 (by rw [bcells_length, n.2]) (fun j v hv => ?_)
  have hadd : (⟨b, 0, none⟩ : Addr).add j = ⟨b, j, none⟩ := by unfold Addr.add; split <;> simp_all
  rw [hadd, cell_of_heap hb]
  simpa using hv
set_option maxHeartbeats 1000000 in
set_option maxRecDepth 100000 in
theorem shaCompare_ok (L : SC P k h) (w : World) (x y : Nm) :
    Calls P 38 #[.agg (bcells x.1).toArray, .agg (bcells y.1).toArray] w fun e w' => e = .returned (.int .i64 (cmpL x.1 y.1)) ∧ Grown w w' := by
  have hc : ∀ n, Calls P 53 #[.slice (some ⟨w.heap.size, 0, none⟩) 32 32, .slice (some ⟨w.heap.size + 1, 0, none⟩) 32 32] (((w.alloc (.cells (bcells x.1).toArray 24)).alloc (.cells (bcells y.1).toArray 24)).drewN n)
      fun e w' => e = .returned (.int .i64 (cmpL x.1 y.1)) ∧ w' = ((w.alloc (.cells (bcells x.1).toArray 24)).alloc (.cells (bcells y.1).toArray 24)).drewN n := fun n => by
    have h1 : Bs (fun _ => False) (((w.alloc (.cells (bcells x.1).toArray 24)).alloc (.cells (bcells y.1).toArray 24)).drewN n) (.slice (some ⟨w.heap.size, 0, none⟩) x.1.length x.1.length) x.1 :=
      box_bytes id (by rw [x.2]; omega) (by
        show ((w.alloc (.cells (bcells x.1).toArray 24)).alloc (.cells (bcells y.1).toArray 24)).heap[w.heap.size]? = _
        rw [heap_alloc_old _ _ (by simp)]; exact heap_alloc_new w _)
    have h2 : Bs (fun _ => False) (((w.alloc (.cells (bcells x.1).toArray 24)).alloc (.cells (bcells y.1).toArray 24)).drewN n) (.slice (some ⟨w.heap.size + 1, 0, none⟩) y.1.length y.1.length) y.1 :=
      box_bytes id (by rw [y.2]; omega) (by
        show ((w.alloc (.cells (bcells x.1).toArray 24)).alloc (.cells (bcells y.1).toArray 24)).heap[w.heap.size + 1]? = _
        have := heap_alloc_new (w.alloc (.cells (bcells x.1).toArray 24)) (.cells (bcells y.1).toArray 24)
        simpa using this)
    rw [x.2] at h1
    rw [y.2] at h2
    exact (bytesCompare_ok L h1 h2).mono fun _ _ ⟨h3, h4⟩ => ⟨h3, h4.symm⟩
  have mixed := L.mixed; have t0 := L.t0; have a0 := L.a0; have z0 := L.z0; have v0 := L.v0; have ti := L.ti; have ai := L.ai; have zi := L.zi; have vi := L.vi; have tb := L.tb; have ab := L.ab; have zb := L.zb; have vb := L.vb; have ts := L.ts; have az := L.az; have zs := L.zs; have vs := L.vs; have zy := L.zy; have tE := L.tE; have aE := L.aE; have zE := L.zE; have tH := L.tH; have aH := L.aH; have zH := L.zH
  generalize cmpL x.1 y.1 = r at *
  generalize bcells x.1 = X at *
  generalize bcells y.1 = Y at *
  have e1 : ∀ args w, (callFunc 53 args).run P w = .ok (.enter 53 args) w := enters_of L.f1 rfl rfl
  go_enter L.f2, Tryz.ntmps38
  go_wp2_with fail
  go_quiet_o ((go_at_fn 53; exact Calls.quiet_of_same (hc _)))
  go_wp2
  go_ret
  exact ⟨rfl, (((Grown.refl w).alloc _).alloc _).drewN _⟩
end Go.Proofs.YtdbpkiddiehliaaGreat
/- segment's compare, against, and the equality of names. -/
namespace Go.Proofs.YtdbpkiddiehliaaGreat
open Go Go.RowKit Go.Sort
variable {P : Program} {k h : Nat}
theorem two_boxes (w : World) (A B : Obj) : ((w.alloc A).alloc B).heap[w.heap.size]? = some A ∧ ((w.alloc A).alloc B).heap[w.heap.size + 1]? = some B :=
  ⟨by rw [heap_alloc_old _ _ (by simp)]; exact heap_alloc_new w _, by have := heap_alloc_new (w.alloc A) B; simpa using this⟩
set_option maxHeartbeats 1000000 in
set_option maxRecDepth 100000 in
theorem segCompare_ok (L : SC P k h) (hh : h = 32) (w : World) (x y : Ent) :
    Calls P 37 #[.agg (entC x).toArray, .agg (entC y).toArray] w fun e w' => e = .returned (.int .i64 (cmpE x y)) ∧ Grown w w' := by
  have hB := two_boxes w (.cells (entC x).toArray 54) (.cells (entC y).toArray 54)
  have l1 : Sem.run P (loadCellsFrom ⟨w.heap.size, 0, none⟩ 0 h #[]) ((w.alloc (.cells (entC x).toArray 54)).alloc (.cells (entC y).toArray 54)) = .ok (bcells x.nm.1).toArray ((w.alloc (.cells (entC x).toArray 54)).alloc (.cells (entC y).toArray 54)) := by rw [hh]; exact load_name hB.1
  have l2 : Sem.run P (loadCellsFrom ⟨w.heap.size + 1, 0, none⟩ 0 h #[]) ((w.alloc (.cells (entC x).toArray 54)).alloc (.cells (entC y).toArray 54)) = .ok (bcells y.nm.1).toArray ((w.alloc (.cells (entC x).toArray 54)).alloc (.cells (entC y).toArray 54)) := by rw [hh]; exact load_name hB.2
  have hc := shaCompare_ok L ((w.alloc (.cells (entC x).toArray 54)).alloc (.cells (entC y).toArray 54)) x.nm y.nm
  have h0 : ¬ h = 0 := by omega
  have uE := fun w => run_underlying (w := w) L.tE
  clear hB hh
  unfold cmpE
  have mixed := L.mixed; have t0 := L.t0; have a0 := L.a0; have z0 := L.z0; have v0 := L.v0; have ti := L.ti; have ai := L.ai; have zi := L.zi; have vi := L.vi; have tb := L.tb; have ab := L.ab; have zb := L.zb; have vb := L.vb; have ts := L.ts; have az := L.az; have zs := L.zs; have vs := L.vs; have zy := L.zy; have tE := L.tE; have aE := L.aE; have zE := L.zE; have tH := L.tH; have aH := L.aH; have zH := L.zH
  generalize cmpL x.nm.1 y.nm.1 = r at *
  generalize bcells x.nm.1 = X at *
  generalize bcells y.nm.1 = Y at *
  generalize entC x = A at *
  generalize entC y = B at *
  have e1 : ∀ args w, (callFunc 38 args).run P w = .ok (.enter 38 args) w := enters_of L.f2 rfl rfl
  go_enter L.f3, Tryz.ntmps37
  go_wp2_with (go_at_fn 38; refine hc.mono ?_; rintro e w1 ⟨rfl, hg⟩)
  go_ret
  exact ⟨rfl, (((Grown.refl w).alloc _).alloc _).trans hg⟩
set_option maxHeartbeats 1000000 in
set_option maxRecDepth 100000 in
theorem segAgainst_ok (L : SC P k h) (hh : h = 32) (w : World) (x : Ent) (y : Nm) :
    Calls P 22 #[.agg (entC x).toArray, .agg (bcells y.1).toArray] w fun e w' => e = .returned (.int .i64 (cmpL x.nm.1 y.1)) ∧ Grown w w' := by
  have hB := two_boxes w (.cells (entC x).toArray 54) (.cells (bcells y.1).toArray 24)
  have l1 : Sem.run P (loadCellsFrom ⟨w.heap.size, 0, none⟩ 0 h #[]) ((w.alloc (.cells (entC x).toArray 54)).alloc (.cells (bcells y.1).toArray 24)) = .ok (bcells x.nm.1).toArray ((w.alloc (.cells (entC x).toArray 54)).alloc (.cells (bcells y.1).toArray 24)) := by rw [hh]; exact load_name hB.1
  have l2 : Sem.run P (loadCellsFrom ⟨w.heap.size + 1, 0, none⟩ 0 h #[]) ((w.alloc (.cells (entC x).toArray 54)).alloc (.cells (bcells y.1).toArray 24)) = .ok (bcells y.1).toArray ((w.alloc (.cells (entC x).toArray 54)).alloc (.cells (bcells y.1).toArray 24)) := by rw [hh]; exact load_hash hB.2
  have hc := shaCompare_ok L ((w.alloc (.cells (entC x).toArray 54)).alloc (.cells (bcells y.1).toArray 24)) x.nm y
  have h0 : ¬ h = 0 := by omega
  have uE := fun w => run_underlying (w := w) L.tE
  clear hB hh
  have mixed := L.mixed; have t0 := L.t0; have a0 := L.a0; have z0 := L.z0; have v0 := L.v0; have ti := L.ti; have ai := L.ai; have zi := L.zi; have vi := L.vi; have tb := L.tb; have ab := L.ab; have zb := L.zb; have vb := L.vb; have ts := L.ts; have az := L.az; have zs := L.zs; have vs := L.vs; have zy := L.zy; have tE := L.tE; have aE := L.aE; have zE := L.zE; have tH := L.tH; have aH := L.aH; have zH := L.zH
  generalize cmpL x.nm.1 y.1 = r at *
  generalize bcells x.nm.1 = X at *
  generalize bcells y.1 = Y at *
  generalize entC x = A at *
  have e1 : ∀ args w, (callFunc 38 args).run P w = .ok (.enter 38 args) w := enters_of L.f2 rfl rfl
  go_enter L.f4, Tryz.ntmps22
  go_wp2_with (go_at_fn 38; refine hc.mono ?_; rintro e w1 ⟨rfl, hg⟩)
  go_ret
  exact ⟨rfl, (((Grown.refl w).alloc _).alloc _).trans hg⟩
theorem eqH (L : SC P k h) (x y : Nm) (w : World) : (Op.equalIn 10000 24 (.agg (bcells x.1).toArray) (.agg (bcells y.1).toArray)).run P w = .ok (decide (x = y)) w := by
  have := run_equalIn_bytes (P := P) w 9998 24 5 32 L.tH L.ty L.zy x.1 y.1 x.2 y.2
  rw [show decide (x = y) = (x.1 == y.1) by
    by_cases e : x = y
    · subst e; simp
    · have : x.1 ≠ y.1 := fun h => e (Subtype.ext h)
      simp [e, this]]
  exact this
set_option maxHeartbeats 1000000 in
set_option maxRecDepth 100000 in
theorem sortEq_ok (L : SC P k h) (hh : h = 32) (w : World) (x y : Ent) :
    Calls P 41 #[.agg (entC x).toArray, .agg (entC y).toArray] w fun e w' => e = .returned (.bool (decide (x.nm = y.nm))) ∧ Grown w w' := by
  have hB := two_boxes w (.cells (entC x).toArray 54) (.cells (entC y).toArray 54)
  have l1 : Sem.run P (loadCellsFrom ⟨w.heap.size, 0, none⟩ 0 h #[]) ((w.alloc (.cells (entC x).toArray 54)).alloc (.cells (entC y).toArray 54)) = .ok (bcells x.nm.1).toArray ((w.alloc (.cells (entC x).toArray 54)).alloc (.cells (entC y).toArray 54)) := by rw [hh]; exact load_name hB.1
  have l2 : Sem.run P (loadCellsFrom ⟨w.heap.size + 1, 0, none⟩ 0 h #[]) ((w.alloc (.cells (entC x).toArray 54)).alloc (.cells (entC y).toArray 54)) = .ok (bcells y.nm.1).toArray ((w.alloc (.cells (entC x).toArray 54)).alloc (.cells (entC y).toArray 54)) := by rw [hh]; exact load_name hB.2
  have he := eqH L x.nm y.nm
  have gH := L.gH
  have h0 : ¬ h = 0 := by omega
  have uE := fun w => run_underlying (w := w) L.tE
  clear hB hh
  have mixed := L.mixed; have t0 := L.t0; have a0 := L.a0; have z0 := L.z0; have v0 := L.v0; have ti := L.ti; have ai := L.ai; have zi := L.zi; have vi := L.vi; have tb := L.tb; have ab := L.ab; have zb := L.zb; have vb := L.vb; have ts := L.ts; have az := L.az; have zs := L.zs; have vs := L.vs; have zy := L.zy; have tE := L.tE; have aE := L.aE; have zE := L.zE; have tH := L.tH; have aH := L.aH; have zH := L.zH
  generalize decide (x.nm = y.nm) = r at *
  generalize bcells x.nm.1 = X at *
  generalize bcells y.nm.1 = Y at *
  generalize entC x = A at *
  generalize entC y = B at *
  go_enter L.f5, Tryz.ntmps41
  go_wp2
  go_ret
  exact ⟨rfl, (((Grown.refl w).alloc _).alloc _)⟩
end Go.Proofs.YtdbpkiddiehliaaGreat
