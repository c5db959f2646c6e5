/- Comparisons of names and entries: bytes.Compare, sha.Compare, segment's compare and against, and Sort's equality, with the sizes of a name and an entry left open. -/
import Derived.Test.YtpomfegcifpfkaaStable0
import Derived.Lib.Bytealg
import Derived.Lib.UnsafeStr
import Derived.Laws.Externs
import Derived.Sort.Grow
import Derived.Outline
import Derived.BigQuiet
import Derived.Deep.QuietTactic
import Derived.Test.YtpomfegcifpfkaaClone
import Derived.Shelf.SlicesQ.Load
import Derived.Stop.BytesEq
import Derived.Test.YtpomfegcifpfkaaRow
namespace Go.Proofs.Ytpomfegcifpfkaa
open Go Go.RowKit Go.Sort
/-- Only draws and new blocks. -/
def Grown (w w' : World) : Prop := ∃ q os, w' = grow (w.drewN q) os
theorem drewN_grow (w : World) (os : Array Obj) (n : Nat) : (grow w os).drewN n = grow (w.drewN n) os := rfl
theorem Grown.refl (w : World) : Grown w w := ⟨0, #[], by rw [grow_empty]; rfl⟩
theorem Grown.alloc {w w' : World} (h : Grown w w') (o : Obj) : Grown w (w'.alloc o) := by
  obtain ⟨q, os, rfl⟩ := h
  exact ⟨q, os ++ #[o], by rw [alloc_eq_grow, grow_grow]⟩
theorem Grown.drewN {w w' : World} (h : Grown w w') (n : Nat) : Grown w (w'.drewN n) := by
  obtain ⟨q, os, rfl⟩ := h
  exact ⟨q + n, os, by rw [drewN_grow, World.drewN_drewN]⟩
theorem Grown.drew {w w' : World} (h : Grown w w') : Grown w w'.drew := h.drewN 1
theorem Grown.trans {a b c : World} (h : Grown a b) (k : Grown b c) : Grown a c := by
  obtain ⟨q, os, rfl⟩ := h
  obtain ⟨q2, os2, rfl⟩ := k
  exact ⟨q + q2, os ++ os2, by rw [drewN_grow, World.drewN_drewN, grow_grow]⟩
theorem Grown.size {w w' : World} (h : Grown w w') : w.heap.size ≤ w'.heap.size := by
  obtain ⟨q, os, rfl⟩ := h
  rw [size_grow]; exact Nat.le_add_right _ _
theorem Grown.fr {w w' : World} (h : Grown w w') (S : Nat → Prop) : Fr S w w' := by
  obtain ⟨q, os, rfl⟩ := h
  exact ⟨rfl, rfl, rfl, by rw [size_grow]; exact Nat.le_add_right _ _, fun k hk _ => heap_grow_old (w.drewN q) os hk⟩
theorem Grown.below {w w' : World} (h : Grown w w') : Below w.heap.size w w' := (h.fr (fun _ => False)).below
theorem compareBytes_eq : ∀ a b, Lib.compareBytes a b = cmpL a b
  | [], [] => rfl
  | [], _ :: _ => rfl
  | _ :: _, [] => rfl
  | x :: a, y :: b => by
    rw [Lib.compareBytes, compareBytes_eq a b]
    unfold cmpL
    rw [ltL]
    by_cases e : x = y
    · subst e
      simp
    · rw [if_neg e]
      by_cases h : x < y
      · simp [h]
      · have h2 : y < x := by
          rcases UInt8.lt_or_lt_of_ne e with h3 | h3
          · exact absurd h3 h
          · exact h3
        simp [h, h2, e]
theorem run_loadB {P : Program} {w : World} : ∀ (l : List UInt8) (a : Addr) (acc : ByteArray), (∀ j x, l[j]? = some x → w.cell? (a.add j) = some (.int .u8 x.toNat)) →
    (Extern.Bytes.loadBytes a l.length acc).run P w = .ok ⟨acc.data ++ l.toArray⟩ w
  | [], a, acc, _ => by simp [Extern.Bytes.loadBytes]
  | x :: l, a, acc, h => by
    have h0 : w.cell? a = some (.int .u8 x.toNat) := by
      have := h 0 x rfl
      simpa [Addr.add] using this
    have ih := run_loadB (P := P) l (a.add 1) (acc.push x) (fun j y hy => by
      have := h (j + 1) y (by simpa using hy)
      have e : (a.add 1).add j = a.add (j + 1) := by
        unfold Addr.add
        by_cases hj : j = 0
        · subst hj; simp
        · simp [hj]; omega
      rw [e]; exact this)
    have hx : ((x.toNat : Int).toNat).toUInt8 = x := by simp
    simp only [List.length_cons, Extern.Bytes.loadBytes, Sem.run_bind, run_load, h0, Result.andThen, hx]
    rw [ih]
    congr 1
    apply ByteArray.ext
    simp
theorem cell_bytes {S : Nat → Prop} {w : World} {v : Value} {xs : List UInt8} (h : Bs S w v xs) {P : Program} : (Extern.Bytes.bytesOf v).run P w = .ok ⟨xs.toArray⟩ w := by
  obtain ⟨a, c, rfl, _, _, h4⟩ := h
  rcases h4 with rfl | ⟨b, off, rfl, _, _, hc⟩
  · cases a with
    | none => rfl
    | some a => rfl
  · show (Extern.Bytes.loadBytes _ _ _).run P w = _
    rw [run_loadB (w := w) xs ⟨b, off, none⟩ .empty (fun j x hx => by
      have hadd : (⟨b, off, none⟩ : Addr).add j = ⟨b, off + j, none⟩ := by unfold Addr.add; split <;> simp_all
      rw [hadd]; exact hc j x hx)]
    simp
theorem cmpx {S S' : Nat → Prop} {w : World} {u v : Value} {xs ys : List UInt8} (hu : Bs S w u xs) (hv : Bs S' w v ys) : (callFunc 67 #[u, v]).run Try.prog w = .ok (.value (.int .i64 (cmpL xs ys))) w := by
  rw [run_callFunc_extern Try.func67 (by kernel_rfl) (by kernel_rfl) (by kernel_rfl) (e := Extern.BytealgCompare.compare) (by kernel_rfl)]
  change (Sem.run Try.prog (do pure (goInt (Extern.BytealgCompare.cmp (← Extern.Bytes.bytesOf u) (← Extern.Bytes.bytesOf v)))) w).andThen _ = _
  simp only [Sem.run_bind, cell_bytes hu, cell_bytes hv, Result.andThen_ok, Sem.run_pure]
  rw [Lib.cmp_eq, compareBytes_eq]
  rfl
/-- What the comparisons lean on of the program. -/
structure SC (P : Program) (k h : Nat) : Prop where
  mixed : P.follows .mixedOrders = true
  f1 : P.funcs[62]? = some Try.f62
  f2 : P.funcs[54]? = some Try.f54
  f3 : P.funcs[33]? = some Try.f33
  f4 : P.funcs[41]? = some Try.f41
  f5 : P.funcs[39]? = some Try.f39
  x1 : ∀ {S S' : Nat → Prop} {w : World} {u v : Value} {xs ys : List UInt8}, Bs S w u xs → Bs S' w v ys → (callFunc 67 #[u, v]).run P w = .ok (.value (.int .i64 (cmpL xs ys))) w
  t0 : P.underlying 0 = some (TypeDesc.tuple #[])
  a0 : ∀ w, (isAgg 0).run P w = .ok false w
  z0 : ∀ w, (Go.sizeOf 0).run P w = .ok 1 w
  v0 : ∀ w, (zeroValue 0).run P w = .ok (Value.tuple #[]) w
  ti : P.underlying 3 = some (TypeDesc.int IntKind.i64)
  ai : ∀ w, (isAgg 3).run P w = .ok false w
  zi : ∀ w, (Go.sizeOf 3).run P w = .ok 1 w
  vi : ∀ w, (zeroValue 3).run P w = .ok (Value.int IntKind.i64 0) w
  tb : P.underlying 4 = some (TypeDesc.bool)
  ab : ∀ w, (isAgg 4).run P w = .ok false w
  zb : ∀ w, (Go.sizeOf 4).run P w = .ok 1 w
  vb : ∀ w, (zeroValue 4).run P w = .ok (Value.bool false) w
  ts : P.underlying 23 = some (TypeDesc.slice 5)
  az : ∀ w, (isAgg 23).run P w = .ok false w
  zs : ∀ w, (Go.sizeOf 23).run P w = .ok 1 w
  vs : ∀ w, (zeroValue 23).run P w = .ok (Value.slice none 0 0) w
  zy : ∀ w, (Go.sizeOf 5).run P w = .ok 1 w
  ty : P.underlying 5 = some (TypeDesc.int IntKind.u8)
  gH : P.eqGuardType P.depth 46 = false
  tE : P.underlying 50 = some (TypeDesc.struct #[{ name := "Name", type := 46, offset := 0, embedded := false, tag := "", pkgPath := "", byteOffset := 0 }, { name := "W", type := 48, offset := 32, embedded := false, tag := "", pkgPath := "", byteOffset := 32 }])
  aE : ∀ w, (isAgg 50).run P w = .ok true w
  zE : ∀ w, (Go.sizeOf 50).run P w = .ok k w
  tH : P.underlying 46 = some (TypeDesc.array 32 5)
  aH : ∀ w, (isAgg 46).run P w = .ok true w
  zH : ∀ w, (Go.sizeOf 46).run P w = .ok h w
theorem sc : SC Try.prog 35 32 := {
  mixed := by kernel_rfl
  f1 := Try.func62
  f2 := Try.func54
  f3 := Try.func33
  f4 := Try.func41
  f5 := Try.func39
  x1 := cmpx
  t0 := Try.underlying0
  a0 := Try.isAgg0
  z0 := Try.sizeOf0
  v0 := Try.zeroValue0
  ti := Try.underlying3
  ai := Try.isAgg3
  zi := Try.sizeOf3
  vi := Try.zeroValue3
  tb := Try.underlying4
  ab := Try.isAgg4
  zb := Try.sizeOf4
  vb := Try.zeroValue4
  ts := Try.underlying23
  az := Try.isAgg23
  zs := Try.sizeOf23
  vs := Try.zeroValue23
  zy := Try.sizeOf5
  ty := Try.underlying5
  gH := by kernel_rfl
  tE := Try.underlying50
  aE := Try.isAgg50
  zE := Try.sizeOf50
  tH := Try.underlying46
  aH := Try.isAgg46
  zH := Try.sizeOf46 }
variable {P : Program} {k h : Nat}
set_option maxHeartbeats 1000000 in
set_option maxRecDepth 100000 in
theorem bytesCompare_ok (L : SC P k h) {S S' : Nat → Prop} {w : World} {u v : Value} {xs ys : List UInt8} (hu : Bs S w u xs) (hv : Bs S' w v ys) :
    Calls P 62 #[u, v] w fun e w' => e = .returned (.int .i64 (cmpL xs ys)) ∧ w = w' := by
  have hx := L.x1 hu hv
  obtain ⟨a, c, rfl, _⟩ := hu
  obtain ⟨a2, c2, rfl, _⟩ := hv
  have mixed := L.mixed; have t0 := L.t0; have a0 := L.a0; have z0 := L.z0; have v0 := L.v0; have ti := L.ti; have ai := L.ai; have zi := L.zi; have vi := L.vi; have tb := L.tb; have ab := L.ab; have zb := L.zb; have vb := L.vb; have ts := L.ts; have az := L.az; have zs := L.zs; have vs := L.vs; have zy := L.zy; have tE := L.tE; have aE := L.aE; have zE := L.zE; have tH := L.tH; have aH := L.aH; have zH := L.zH
  generalize cmpL xs ys = r at *
  go_enter L.f1, Try.ntmps62
  go_wp2
  go_ret
  exact ⟨rfl, rfl⟩
end Go.Proofs.Ytpomfegcifpfkaa
/- sha.Compare, and segment's compare and against. -/
namespace Go.Proofs.Ytpomfegcifpfkaa
open Go Go.RowKit Go.Sort
variable {P : Program} {k h : Nat}
/-- An entry's cells. -/
def entC (e : Ent) : List Value := bcells e.nm.1 ++ [.int .i64 e.pk, .int .i64 e.pos, .int .i64 e.ln]
theorem entC_length (e : Ent) : (entC e).length = 35 := by unfold entC; rw [List.length_append, bcells_length, e.nm.2]; rfl
theorem entC_one (e : Ent) : ∀ u ∈ entC e, u.oneCell' = true := by
  intro u hu
  rcases List.mem_append.1 hu with hu | hu
  · exact bcells_one _ u hu
  · simp only [List.mem_cons, List.not_mem_nil, or_false] at hu
    rcases hu with rfl | rfl | rfl <;> rfl
theorem box_bytes {w : World} {b t : Nat} {xs : List UInt8} {S : Nat → Prop} (hs : ¬ S b) (hl : xs.length ≤ 140737488355328) (hb : w.heap[b]? = some (.cells (bcells xs).toArray t (0, 0))) : Bs S w (.slice (some ⟨b, 0, none⟩) xs.length xs.length) xs :=
  ⟨_, _, rfl, ⟨Nat.le_refl _, hl, by unfold maxLen; omega⟩, (fun h => nomatch h), .inr ⟨b, 0, rfl, lt_of_heap hb, hs, fun i x hx => by
    rw [cell_of_heap hb]; simp [bcells, hx, bcell]⟩⟩
theorem load_name {P : Program} {w : World} {b t : Nat} {e : Ent} (hb : w.heap[b]? = some (.cells (entC e).toArray t (0, 0))) : Sem.run P (loadCellsFrom ⟨b, 0, none⟩ 0 32 #[]) w = .ok (bcells e.nm.1).toArray w := by
  refine run_loadCellsFrom_list P w ⟨b, 0, none⟩ (bcells e.nm.1) 32 (by rw [bcells_length, e.nm.2]) (fun j v hv => ?_)
  have hadd : (⟨b, 0, none⟩ : Addr).add j = ⟨b, j, none⟩ := by unfold Addr.add; split <;> simp_all
  rw [hadd, cell_of_heap hb]
  unfold entC
  have hj := (List.getElem?_eq_some_iff.1 hv).1
  simp only [List.getElem?_toArray]
  rw [List.getElem?_append_left hj]; exact hv
theorem load_hash {P : Program} {w : World} {b t : Nat} {n : Nm} (hb : w.heap[b]? = some (.cells (bcells n.1).toArray t (0, 0))) : Sem.run P (loadCellsFrom ⟨b, 0, none⟩ 0 32 #[]) w = .ok (bcells n.1).toArray w := by
  refine run_loadCellsFrom_list P w ⟨b, 0, none⟩ (bcells n.1) 32 (by rw [bcells_length, n.2]) (fun j v hv => ?_)
  have hadd : (⟨b, 0, none⟩ : Addr).add j = ⟨b, j, none⟩ := by unfold Addr.add; split <;> simp_all
  rw [hadd, cell_of_heap hb]
  simpa using hv
set_option maxHeartbeats 1000000 in
set_option maxRecDepth 100000 in
theorem shaCompare_ok (L : SC P k h) (w : World) (x y : Nm) :
    Calls P 54 #[.agg (bcells x.1).toArray, .agg (bcells y.1).toArray] w fun e w' => e = .returned (.int .i64 (cmpL x.1 y.1)) ∧ Grown w w' := by
  have hc : ∀ n, Calls P 62 #[.slice (some ⟨w.heap.size, 0, none⟩) 32 32, .slice (some ⟨w.heap.size + 1, 0, none⟩) 32 32] (((w.alloc (.cells (bcells x.1).toArray 46)).alloc (.cells (bcells y.1).toArray 46)).drewN n)
      fun e w' => e = .returned (.int .i64 (cmpL x.1 y.1)) ∧ w' = ((w.alloc (.cells (bcells x.1).toArray 46)).alloc (.cells (bcells y.1).toArray 46)).drewN n := fun n => by
    have h1 : Bs (fun _ => False) (((w.alloc (.cells (bcells x.1).toArray 46)).alloc (.cells (bcells y.1).toArray 46)).drewN n) (.slice (some ⟨w.heap.size, 0, none⟩) x.1.length x.1.length) x.1 :=
      box_bytes id (by rw [x.2]; omega) (by
        show ((w.alloc (.cells (bcells x.1).toArray 46)).alloc (.cells (bcells y.1).toArray 46)).heap[w.heap.size]? = _
        rw [heap_alloc_old _ _ (by simp)]; exact heap_alloc_new w _)
    have h2 : Bs (fun _ => False) (((w.alloc (.cells (bcells x.1).toArray 46)).alloc (.cells (bcells y.1).toArray 46)).drewN n) (.slice (some ⟨w.heap.size + 1, 0, none⟩) y.1.length y.1.length) y.1 :=
      box_bytes id (by rw [y.2]; omega) (by
        show ((w.alloc (.cells (bcells x.1).toArray 46)).alloc (.cells (bcells y.1).toArray 46)).heap[w.heap.size + 1]? = _
        have := heap_alloc_new (w.alloc (.cells (bcells x.1).toArray 46)) (.cells (bcells y.1).toArray 46)
        simpa using this)
    rw [x.2] at h1
    rw [y.2] at h2
    exact (bytesCompare_ok L h1 h2).mono fun _ _ ⟨h3, h4⟩ => ⟨h3, h4.symm⟩
  have mixed := L.mixed; have t0 := L.t0; have a0 := L.a0; have z0 := L.z0; have v0 := L.v0; have ti := L.ti; have ai := L.ai; have zi := L.zi; have vi := L.vi; have tb := L.tb; have ab := L.ab; have zb := L.zb; have vb := L.vb; have ts := L.ts; have az := L.az; have zs := L.zs; have vs := L.vs; have zy := L.zy; have tE := L.tE; have aE := L.aE; have zE := L.zE; have tH := L.tH; have aH := L.aH; have zH := L.zH
  generalize cmpL x.1 y.1 = r at *
  generalize bcells x.1 = X at *
  generalize bcells y.1 = Y at *
  have e1 : ∀ args w, (callFunc 62 args).run P w = .ok (.enter 62 args) w := enters_of L.f1 rfl rfl
  go_enter L.f2, Try.ntmps54
  go_wp2_with fail
  go_quiet_o ((go_at_fn 62; exact Calls.quiet_of_same (hc _)))
  go_wp2
  go_ret
  exact ⟨rfl, (((Grown.refl w).alloc _).alloc _).drewN _⟩
end Go.Proofs.Ytpomfegcifpfkaa
/- segment's compare, against, and the equality of names. -/
namespace Go.Proofs.Ytpomfegcifpfkaa
open Go Go.RowKit Go.Sort
variable {P : Program} {k h : Nat}
theorem two_boxes (w : World) (A B : Obj) : ((w.alloc A).alloc B).heap[w.heap.size]? = some A ∧ ((w.alloc A).alloc B).heap[w.heap.size + 1]? = some B :=
  ⟨by rw [heap_alloc_old _ _ (by simp)]; exact heap_alloc_new w _, by have := heap_alloc_new (w.alloc A) B; simpa using this⟩
set_option maxHeartbeats 1000000 in
set_option maxRecDepth 100000 in
theorem segCompare_ok (L : SC P k h) (hh : h = 32) (w : World) (x y : Ent) :
    Calls P 33 #[.agg (entC x).toArray, .agg (entC y).toArray] w fun e w' => e = .returned (.int .i64 (cmpE x y)) ∧ Grown w w' := by
  have hB := two_boxes w (.cells (entC x).toArray 50) (.cells (entC y).toArray 50)
  have l1 : Sem.run P (loadCellsFrom ⟨w.heap.size, 0, none⟩ 0 h #[]) ((w.alloc (.cells (entC x).toArray 50)).alloc (.cells (entC y).toArray 50)) = .ok (bcells x.nm.1).toArray ((w.alloc (.cells (entC x).toArray 50)).alloc (.cells (entC y).toArray 50)) := by rw [hh]; exact load_name hB.1
  have l2 : Sem.run P (loadCellsFrom ⟨w.heap.size + 1, 0, none⟩ 0 h #[]) ((w.alloc (.cells (entC x).toArray 50)).alloc (.cells (entC y).toArray 50)) = .ok (bcells y.nm.1).toArray ((w.alloc (.cells (entC x).toArray 50)).alloc (.cells (entC y).toArray 50)) := by rw [hh]; exact load_name hB.2
  have hc := shaCompare_ok L ((w.alloc (.cells (entC x).toArray 50)).alloc (.cells (entC y).toArray 50)) x.nm y.nm
  have h0 : ¬ h = 0 := by omega
  have uE := fun w => run_underlying (w := w) L.tE
  clear hB hh
  unfold cmpE
  have mixed := L.mixed; have t0 := L.t0; have a0 := L.a0; have z0 := L.z0; have v0 := L.v0; have ti := L.ti; have ai := L.ai; have zi := L.zi; have vi := L.vi; have tb := L.tb; have ab := L.ab; have zb := L.zb; have vb := L.vb; have ts := L.ts; have az := L.az; have zs := L.zs; have vs := L.vs; have zy := L.zy; have tE := L.tE; have aE := L.aE; have zE := L.zE; have tH := L.tH; have aH := L.aH; have zH := L.zH
  generalize cmpL x.nm.1 y.nm.1 = r at *
  generalize bcells x.nm.1 = X at *
  generalize bcells y.nm.1 = Y at *
  generalize entC x = A at *
  generalize entC y = B at *
  have e1 : ∀ args w, (callFunc 54 args).run P w = .ok (.enter 54 args) w := enters_of L.f2 rfl rfl
  go_enter L.f3, Try.ntmps33
  go_wp2_with (go_at_fn 54; refine hc.mono ?_; rintro e w1 ⟨rfl, hg⟩)
  go_ret
  exact ⟨rfl, (((Grown.refl w).alloc _).alloc _).trans hg⟩
set_option maxHeartbeats 1000000 in
set_option maxRecDepth 100000 in
theorem segAgainst_ok (L : SC P k h) (hh : h = 32) (w : World) (x : Ent) (y : Nm) :
    Calls P 41 #[.agg (entC x).toArray, .agg (bcells y.1).toArray] w fun e w' => e = .returned (.int .i64 (cmpL x.nm.1 y.1)) ∧ Grown w w' := by
  have hB := two_boxes w (.cells (entC x).toArray 50) (.cells (bcells y.1).toArray 46)
  have l1 : Sem.run P (loadCellsFrom ⟨w.heap.size, 0, none⟩ 0 h #[]) ((w.alloc (.cells (entC x).toArray 50)).alloc (.cells (bcells y.1).toArray 46)) = .ok (bcells x.nm.1).toArray ((w.alloc (.cells (entC x).toArray 50)).alloc (.cells (bcells y.1).toArray 46)) := by rw [hh]; exact load_name hB.1
  have l2 : Sem.run P (loadCellsFrom ⟨w.heap.size + 1, 0, none⟩ 0 h #[]) ((w.alloc (.cells (entC x).toArray 50)).alloc (.cells (bcells y.1).toArray 46)) = .ok (bcells y.1).toArray ((w.alloc (.cells (entC x).toArray 50)).alloc (.cells (bcells y.1).toArray 46)) := by rw [hh]; exact load_hash hB.2
  have hc := shaCompare_ok L ((w.alloc (.cells (entC x).toArray 50)).alloc (.cells (bcells y.1).toArray 46)) x.nm y
  have h0 : ¬ h = 0 := by omega
  have uE := fun w => run_underlying (w := w) L.tE
  clear hB hh
  have mixed := L.mixed; have t0 := L.t0; have a0 := L.a0; have z0 := L.z0; have v0 := L.v0; have ti := L.ti; have ai := L.ai; have zi := L.zi; have vi := L.vi; have tb := L.tb; have ab := L.ab; have zb := L.zb; have vb := L.vb; have ts := L.ts; have az := L.az; have zs := L.zs; have vs := L.vs; have zy := L.zy; have tE := L.tE; have aE := L.aE; have zE := L.zE; have tH := L.tH; have aH := L.aH; have zH := L.zH
  generalize cmpL x.nm.1 y.1 = r at *
  generalize bcells x.nm.1 = X at *
  generalize bcells y.1 = Y at *
  generalize entC x = A at *
  have e1 : ∀ args w, (callFunc 54 args).run P w = .ok (.enter 54 args) w := enters_of L.f2 rfl rfl
  go_enter L.f4, Try.ntmps41
  go_wp2_with (go_at_fn 54; refine hc.mono ?_; rintro e w1 ⟨rfl, hg⟩)
  go_ret
  exact ⟨rfl, (((Grown.refl w).alloc _).alloc _).trans hg⟩
theorem eqH (L : SC P k h) (x y : Nm) (w : World) : (Op.equalIn 10000 46 (.agg (bcells x.1).toArray) (.agg (bcells y.1).toArray)).run P w = .ok (decide (x = y)) w := by
  have := run_equalIn_bytes (P := P) w 9998 46 5 32 L.tH L.ty L.zy x.1 y.1 x.2 y.2
  rw [show decide (x = y) = (x.1 == y.1) by
    by_cases e : x = y
    · subst e; simp
    · have : x.1 ≠ y.1 := fun h => e (Subtype.ext h)
      simp [e, this]]
  exact this
set_option maxHeartbeats 1000000 in
set_option maxRecDepth 100000 in
theorem sortEq_ok (L : SC P k h) (hh : h = 32) (w : World) (x y : Ent) :
    Calls P 39 #[.agg (entC x).toArray, .agg (entC y).toArray] w fun e w' => e = .returned (.bool (decide (x.nm = y.nm))) ∧ Grown w w' := by
  have hB := two_boxes w (.cells (entC x).toArray 50) (.cells (entC y).toArray 50)
  have l1 : Sem.run P (loadCellsFrom ⟨w.heap.size, 0, none⟩ 0 h #[]) ((w.alloc (.cells (entC x).toArray 50)).alloc (.cells (entC y).toArray 50)) = .ok (bcells x.nm.1).toArray ((w.alloc (.cells (entC x).toArray 50)).alloc (.cells (entC y).toArray 50)) := by rw [hh]; exact load_name hB.1
  have l2 : Sem.run P (loadCellsFrom ⟨w.heap.size + 1, 0, none⟩ 0 h #[]) ((w.alloc (.cells (entC x).toArray 50)).alloc (.cells (entC y).toArray 50)) = .ok (bcells y.nm.1).toArray ((w.alloc (.cells (entC x).toArray 50)).alloc (.cells (entC y).toArray 50)) := by rw [hh]; exact load_name hB.2
  have he := eqH L x.nm y.nm
  have gH := L.gH
  have h0 : ¬ h = 0 := by omega
  have uE := fun w => run_underlying (w := w) L.tE
  clear hB hh
  have mixed := L.mixed; have t0 := L.t0; have a0 := L.a0; have z0 := L.z0; have v0 := L.v0; have ti := L.ti; have ai := L.ai; have zi := L.zi; have vi := L.vi; have tb := L.tb; have ab := L.ab; have zb := L.zb; have vb := L.vb; have ts := L.ts; have az := L.az; have zs := L.zs; have vs := L.vs; have zy := L.zy; have tE := L.tE; have aE := L.aE; have zE := L.zE; have tH := L.tH; have aH := L.aH; have zH := L.zH
  generalize decide (x.nm = y.nm) = r at *
  generalize bcells x.nm.1 = X at *
  generalize bcells y.nm.1 = Y at *
  generalize entC x = A at *
  generalize entC y = B at *
  go_enter L.f5, Try.ntmps39
  go_wp2
  go_ret
  exact ⟨rfl, (((Grown.refl w).alloc _).alloc _)⟩
end Go.Proofs.Ytpomfegcifpfkaa
/- What segment's functions lean on of the program: the sizes of an entry and of a name are left open. -/
namespace Go.Proofs.Ytpomfegcifpfkaa
open Go Go.RowKit Go.Sort
structure SG (P : Program) (k h : Nat) : Prop where
  mixed : P.follows .mixedOrders = true
  se : SE P k
  sc : SC P k h
  hk : k = 35
  hh : h = 32
  etE : ET P 30 50 k 56 (.agg (entC default).toArray)
  iW : (P.info? 48).map (·.size) = some 3
  u_tUnit : P.underlying 0 = some (TypeDesc.tuple #[])
  r_tUnit : ∀ w, (underlying 0).run P w = .ok (TypeDesc.tuple #[]) w
  a_tUnit : ∀ w, Sem.run P (isAgg 0) w = Result.ok false w
  z_tUnit : ∀ w, Sem.run P (Go.sizeOf 0) w = Result.ok 1 w
  v_tUnit : ∀ w, Sem.run P (zeroValue 0) w = Result.ok (Value.tuple #[]) w
  u_tInt : P.underlying 3 = some (TypeDesc.int IntKind.i64)
  r_tInt : ∀ w, (underlying 3).run P w = .ok (TypeDesc.int IntKind.i64) w
  a_tInt : ∀ w, Sem.run P (isAgg 3) w = Result.ok false w
  z_tInt : ∀ w, Sem.run P (Go.sizeOf 3) w = Result.ok 1 w
  v_tInt : ∀ w, Sem.run P (zeroValue 3) w = Result.ok (Value.int IntKind.i64 0) w
  u_tBool : P.underlying 4 = some TypeDesc.bool
  r_tBool : ∀ w, (underlying 4).run P w = .ok TypeDesc.bool w
  a_tBool : ∀ w, Sem.run P (isAgg 4) w = Result.ok false w
  z_tBool : ∀ w, Sem.run P (Go.sizeOf 4) w = Result.ok 1 w
  v_tBool : ∀ w, Sem.run P (zeroValue 4) w = Result.ok (Value.bool false) w
  u_tUint : P.underlying 114 = some (TypeDesc.int IntKind.u64)
  r_tUint : ∀ w, (underlying 114).run P w = .ok (TypeDesc.int IntKind.u64) w
  a_tUint : ∀ w, Sem.run P (isAgg 114) w = Result.ok false w
  z_tUint : ∀ w, Sem.run P (Go.sizeOf 114) w = Result.ok 1 w
  v_tUint : ∀ w, Sem.run P (zeroValue 114) w = Result.ok (Value.int IntKind.u64 0) w
  u_tByte : P.underlying 5 = some (TypeDesc.int IntKind.u8)
  r_tByte : ∀ w, (underlying 5).run P w = .ok (TypeDesc.int IntKind.u8) w
  a_tByte : ∀ w, Sem.run P (isAgg 5) w = Result.ok false w
  z_tByte : ∀ w, Sem.run P (Go.sizeOf 5) w = Result.ok 1 w
  v_tByte : ∀ w, Sem.run P (zeroValue 5) w = Result.ok (Value.int IntKind.u8 0) w
  u_tBytes : P.underlying 23 = some (TypeDesc.slice 5)
  r_tBytes : ∀ w, (underlying 23).run P w = .ok (TypeDesc.slice 5) w
  a_tBytes : ∀ w, Sem.run P (isAgg 23) w = Result.ok false w
  z_tBytes : ∀ w, Sem.run P (Go.sizeOf 23) w = Result.ok 1 w
  v_tBytes : ∀ w, Sem.run P (zeroValue 23) w = Result.ok (Value.slice none 0 0) w
  u_tHash : P.underlying 46 = some (TypeDesc.array 32 5)
  r_tHash : ∀ w, (underlying 46).run P w = .ok (TypeDesc.array 32 5) w
  a_tHash : ∀ w, Sem.run P (isAgg 46) w = Result.ok true w
  z_tHash : ∀ w, (Go.sizeOf 46).run P w = .ok h w
  v_tHash : ∀ w, (zeroValue 46).run P w = .ok (.agg (bcells (default : Nm).1).toArray) w
  u_tWhere : P.underlying 48 = some (TypeDesc.struct #[{ name := "Pack", type := 3, offset := 0, embedded := false, tag := "", pkgPath := "", byteOffset := 0 }, { name := "At", type := 3, offset := 1, embedded := false, tag := "", pkgPath := "", byteOffset := 8 }, { name := "Len", type := 3, offset := 2, embedded := false, tag := "", pkgPath := "", byteOffset := 16 }])
  r_tWhere : ∀ w, (underlying 48).run P w = .ok (TypeDesc.struct #[{ name := "Pack", type := 3, offset := 0, embedded := false, tag := "", pkgPath := "", byteOffset := 0 }, { name := "At", type := 3, offset := 1, embedded := false, tag := "", pkgPath := "", byteOffset := 8 }, { name := "Len", type := 3, offset := 2, embedded := false, tag := "", pkgPath := "", byteOffset := 16 }]) w
  a_tWhere : ∀ w, Sem.run P (isAgg 48) w = Result.ok true w
  z_tWhere : ∀ w, Sem.run P (Go.sizeOf 48) w = Result.ok 3 w
  v_tWhere : ∀ w, Sem.run P (zeroValue 48) w = Result.ok (Value.agg #[Value.int IntKind.i64 0, Value.int IntKind.i64 0, Value.int IntKind.i64 0]) w
  u_tEnt : P.underlying 50 = some (TypeDesc.struct #[{ name := "Name", type := 46, offset := 0, embedded := false, tag := "", pkgPath := "", byteOffset := 0 }, { name := "W", type := 48, offset := 32, embedded := false, tag := "", pkgPath := "", byteOffset := 32 }])
  r_tEnt : ∀ w, (underlying 50).run P w = .ok (TypeDesc.struct #[{ name := "Name", type := 46, offset := 0, embedded := false, tag := "", pkgPath := "", byteOffset := 0 }, { name := "W", type := 48, offset := 32, embedded := false, tag := "", pkgPath := "", byteOffset := 32 }]) w
  a_tEnt : ∀ w, Sem.run P (isAgg 50) w = Result.ok true w
  z_tEnt : ∀ w, (Go.sizeOf 50).run P w = .ok k w
  v_tEnt : ∀ w, (zeroValue 50).run P w = .ok (.agg (entC default).toArray) w
  u_tREnt : P.underlying 81 = some (TypeDesc.struct #[{ name := "Name", type := 46, offset := 0, embedded := false, tag := "", pkgPath := "", byteOffset := 0 }, { name := "W", type := 79, offset := 32, embedded := false, tag := "", pkgPath := "", byteOffset := 32 }])
  r_tREnt : ∀ w, (underlying 81).run P w = .ok (TypeDesc.struct #[{ name := "Name", type := 46, offset := 0, embedded := false, tag := "", pkgPath := "", byteOffset := 0 }, { name := "W", type := 79, offset := 32, embedded := false, tag := "", pkgPath := "", byteOffset := 32 }]) w
  a_tREnt : ∀ w, Sem.run P (isAgg 81) w = Result.ok true w
  z_tREnt : ∀ w, (Go.sizeOf 81).run P w = .ok k w
  v_tREnt : ∀ w, (zeroValue 81).run P w = .ok (.agg (entC default).toArray) w
  u_tRWhere : P.underlying 79 = some (TypeDesc.struct #[{ name := "Pack", type := 3, offset := 0, embedded := false, tag := "", pkgPath := "", byteOffset := 0 }, { name := "At", type := 3, offset := 1, embedded := false, tag := "", pkgPath := "", byteOffset := 8 }, { name := "Len", type := 3, offset := 2, embedded := false, tag := "", pkgPath := "", byteOffset := 16 }])
  r_tRWhere : ∀ w, (underlying 79).run P w = .ok (TypeDesc.struct #[{ name := "Pack", type := 3, offset := 0, embedded := false, tag := "", pkgPath := "", byteOffset := 0 }, { name := "At", type := 3, offset := 1, embedded := false, tag := "", pkgPath := "", byteOffset := 8 }, { name := "Len", type := 3, offset := 2, embedded := false, tag := "", pkgPath := "", byteOffset := 16 }]) w
  a_tRWhere : ∀ w, Sem.run P (isAgg 79) w = Result.ok true w
  z_tRWhere : ∀ w, Sem.run P (Go.sizeOf 79) w = Result.ok 3 w
  v_tRWhere : ∀ w, Sem.run P (zeroValue 79) w = Result.ok (Value.agg #[Value.int IntKind.i64 0, Value.int IntKind.i64 0, Value.int IntKind.i64 0]) w
  u_tEnts : P.underlying 30 = some (TypeDesc.slice 50)
  r_tEnts : ∀ w, (underlying 30).run P w = .ok (TypeDesc.slice 50) w
  a_tEnts : ∀ w, Sem.run P (isAgg 30) w = Result.ok false w
  z_tEnts : ∀ w, Sem.run P (Go.sizeOf 30) w = Result.ok 1 w
  v_tEnts : ∀ w, Sem.run P (zeroValue 30) w = Result.ok (Value.slice none 0 0) w
  u_tREnts : P.underlying 22 = some (TypeDesc.slice 81)
  r_tREnts : ∀ w, (underlying 22).run P w = .ok (TypeDesc.slice 81) w
  a_tREnts : ∀ w, Sem.run P (isAgg 22) w = Result.ok false w
  z_tREnts : ∀ w, Sem.run P (Go.sizeOf 22) w = Result.ok 1 w
  v_tREnts : ∀ w, Sem.run P (zeroValue 22) w = Result.ok (Value.slice none 0 0) w
  u_tCmpE : P.underlying 99 = some (TypeDesc.func #[50, 50] #[3] false)
  r_tCmpE : ∀ w, (underlying 99).run P w = .ok (TypeDesc.func #[50, 50] #[3] false) w
  a_tCmpE : ∀ w, Sem.run P (isAgg 99) w = Result.ok false w
  z_tCmpE : ∀ w, Sem.run P (Go.sizeOf 99) w = Result.ok 1 w
  v_tCmpE : ∀ w, Sem.run P (zeroValue 99) w = Result.ok Value.nilFunc w
  u_tEqE : P.underlying 101 = some (TypeDesc.func #[50, 50] #[4] false)
  r_tEqE : ∀ w, (underlying 101).run P w = .ok (TypeDesc.func #[50, 50] #[4] false) w
  a_tEqE : ∀ w, Sem.run P (isAgg 101) w = Result.ok false w
  z_tEqE : ∀ w, Sem.run P (Go.sizeOf 101) w = Result.ok 1 w
  v_tEqE : ∀ w, Sem.run P (zeroValue 101) w = Result.ok Value.nilFunc w
  u_tAgainst : P.underlying 104 = some (TypeDesc.func #[50, 46] #[3] false)
  r_tAgainst : ∀ w, (underlying 104).run P w = .ok (TypeDesc.func #[50, 46] #[3] false) w
  a_tAgainst : ∀ w, Sem.run P (isAgg 104) w = Result.ok false w
  z_tAgainst : ∀ w, Sem.run P (Go.sizeOf 104) w = Result.ok 1 w
  v_tAgainst : ∀ w, Sem.run P (zeroValue 104) w = Result.ok Value.nilFunc w
  u_tIntBool : P.underlying 102 = some (TypeDesc.tuple #[3, 4])
  r_tIntBool : ∀ w, (underlying 102).run P w = .ok (TypeDesc.tuple #[3, 4]) w
  a_tIntBool : ∀ w, Sem.run P (isAgg 102) w = Result.ok false w
  z_tIntBool : ∀ w, Sem.run P (Go.sizeOf 102) w = Result.ok 1 w
  v_tIntBool : ∀ w, Sem.run P (zeroValue 102) w = Result.ok (Value.tuple #[Value.int IntKind.i64 0, Value.bool false]) w
  u_tWhereBool : P.underlying 51 = some (TypeDesc.tuple #[48, 4])
  r_tWhereBool : ∀ w, (underlying 51).run P w = .ok (TypeDesc.tuple #[48, 4]) w
  a_tWhereBool : ∀ w, Sem.run P (isAgg 51) w = Result.ok false w
  z_tWhereBool : ∀ w, Sem.run P (Go.sizeOf 51) w = Result.ok 1 w
  v_tWhereBool : ∀ w, Sem.run P (zeroValue 51) w = Result.ok (Value.tuple #[Value.agg #[Value.int IntKind.i64 0, Value.int IntKind.i64 0, Value.int IntKind.i64 0], Value.bool false]) w
  f_segRight : P.funcs[11]? = some Try.f11
  f_segRightE : P.funcs[32]? = some Try.f32
  f_segSort : P.funcs[15]? = some Try.f15
  f_segFind : P.funcs[18]? = some Try.f18
  f_cloneE : P.funcs[36]? = some Try.f36
  f_compactE : P.funcs[38]? = some Try.f38
  f_searchE : P.funcs[40]? = some Try.f40
  f_l10Own : P.funcs[7]? = some Try.f7
  f_l10Back : P.funcs[14]? = some Try.f14
  f_l10Where : P.funcs[35]? = some Try.f35
  f_r10Same : P.funcs[13]? = some Try.f13
  f_sortStE : P.funcs[37]? = some Try.f37
  f_sortEq : P.funcs[39]? = some Try.f39
  f_segCompare : P.funcs[33]? = some Try.f33
  f_segAgainst : P.funcs[41]? = some Try.f41
theorem sg : SG Try.prog 35 32 := {
  mixed := by kernel_rfl
  se := se
  sc := sc
  hk := rfl
  hh := rfl
  etE := ⟨Try.underlying30, by kernel_rfl, by kernel_rfl, by decide, by decide⟩
  iW := by kernel_rfl
  u_tUnit := Try.underlying0
  r_tUnit := fun w => run_underlying Try.underlying0 w
  a_tUnit := Try.isAgg0
  z_tUnit := Try.sizeOf0
  v_tUnit := Try.zeroValue0
  u_tInt := Try.underlying3
  r_tInt := fun w => run_underlying Try.underlying3 w
  a_tInt := Try.isAgg3
  z_tInt := Try.sizeOf3
  v_tInt := Try.zeroValue3
  u_tBool := Try.underlying4
  r_tBool := fun w => run_underlying Try.underlying4 w
  a_tBool := Try.isAgg4
  z_tBool := Try.sizeOf4
  v_tBool := Try.zeroValue4
  u_tUint := Try.underlying114
  r_tUint := fun w => run_underlying Try.underlying114 w
  a_tUint := Try.isAgg114
  z_tUint := Try.sizeOf114
  v_tUint := Try.zeroValue114
  u_tByte := Try.underlying5
  r_tByte := fun w => run_underlying Try.underlying5 w
  a_tByte := Try.isAgg5
  z_tByte := Try.sizeOf5
  v_tByte := Try.zeroValue5
  u_tBytes := Try.underlying23
  r_tBytes := fun w => run_underlying Try.underlying23 w
  a_tBytes := Try.isAgg23
  z_tBytes := Try.sizeOf23
  v_tBytes := Try.zeroValue23
  u_tHash := Try.underlying46
  r_tHash := fun w => run_underlying Try.underlying46 w
  a_tHash := Try.isAgg46
  z_tHash := Try.sizeOf46
  v_tHash := fun w => (Try.zeroValue46 w).trans (by kernel_rfl)
  u_tWhere := Try.underlying48
  r_tWhere := fun w => run_underlying Try.underlying48 w
  a_tWhere := Try.isAgg48
  z_tWhere := Try.sizeOf48
  v_tWhere := Try.zeroValue48
  u_tEnt := Try.underlying50
  r_tEnt := fun w => run_underlying Try.underlying50 w
  a_tEnt := Try.isAgg50
  z_tEnt := Try.sizeOf50
  v_tEnt := fun w => (Try.zeroValue50 w).trans (by kernel_rfl)
  u_tREnt := Try.underlying81
  r_tREnt := fun w => run_underlying Try.underlying81 w
  a_tREnt := Try.isAgg81
  z_tREnt := Try.sizeOf81
  v_tREnt := fun w => (Try.zeroValue81 w).trans (by kernel_rfl)
  u_tRWhere := Try.underlying79
  r_tRWhere := fun w => run_underlying Try.underlying79 w
  a_tRWhere := Try.isAgg79
  z_tRWhere := Try.sizeOf79
  v_tRWhere := Try.zeroValue79
  u_tEnts := Try.underlying30
  r_tEnts := fun w => run_underlying Try.underlying30 w
  a_tEnts := Try.isAgg30
  z_tEnts := Try.sizeOf30
  v_tEnts := Try.zeroValue30
  u_tREnts := Try.underlying22
  r_tREnts := fun w => run_underlying Try.underlying22 w
  a_tREnts := Try.isAgg22
  z_tREnts := Try.sizeOf22
  v_tREnts := Try.zeroValue22
  u_tCmpE := Try.underlying99
  r_tCmpE := fun w => run_underlying Try.underlying99 w
  a_tCmpE := Try.isAgg99
  z_tCmpE := Try.sizeOf99
  v_tCmpE := Try.zeroValue99
  u_tEqE := Try.underlying101
  r_tEqE := fun w => run_underlying Try.underlying101 w
  a_tEqE := Try.isAgg101
  z_tEqE := Try.sizeOf101
  v_tEqE := Try.zeroValue101
  u_tAgainst := Try.underlying104
  r_tAgainst := fun w => run_underlying Try.underlying104 w
  a_tAgainst := Try.isAgg104
  z_tAgainst := Try.sizeOf104
  v_tAgainst := Try.zeroValue104
  u_tIntBool := Try.underlying102
  r_tIntBool := fun w => run_underlying Try.underlying102 w
  a_tIntBool := Try.isAgg102
  z_tIntBool := Try.sizeOf102
  v_tIntBool := Try.zeroValue102
  u_tWhereBool := Try.underlying51
  r_tWhereBool := fun w => run_underlying Try.underlying51 w
  a_tWhereBool := Try.isAgg51
  z_tWhereBool := Try.sizeOf51
  v_tWhereBool := Try.zeroValue51
  f_segRight := Try.func11
  f_segRightE := Try.func32
  f_segSort := Try.func15
  f_segFind := Try.func18
  f_cloneE := Try.func36
  f_compactE := Try.func38
  f_searchE := Try.func40
  f_l10Own := Try.func7
  f_l10Back := Try.func14
  f_l10Where := Try.func35
  f_r10Same := Try.func13
  f_sortStE := Try.func37
  f_sortEq := Try.func39
  f_segCompare := Try.func33
  f_segAgainst := Try.func41
  }
end Go.Proofs.Ytpomfegcifpfkaa
